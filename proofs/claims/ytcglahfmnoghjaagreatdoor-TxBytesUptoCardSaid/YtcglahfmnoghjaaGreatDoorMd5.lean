/- Part 5 of the texts behind the last one: what they say stands ahead of each. Conditions: none. -/
import Derived.Test.YtcglahfmnoghjaaGreatDoorMd4
/-! Transactions: whether one can be, what its outputs have: plain laws; the walks hold. Conditions: none. -/
namespace Go.Proofs.YtcglahfmnoghjaaGreatDoor
open Go Go.Eng Go.Proofs.Tryz
theorem f34_body:f34.body=some (bodyOf f34):=by kernel_rfl
theorem f34_name : (f34.name == "runtime.NumGoroutine") = false := by kernel_rfl
theorem known80:Known prog L80:=by
 unfold L80
 exact num_known known74 func34 f34_name f34_body num5_nil num5_errno
def trightVC:Prop:=∀ (x:TIn),True→(decide (x.n≥(0:Int))=true→(decide (x.n<(64:Int))=true→(decide (x.branch≥(0:Int))=true→(decide (x.branch <
 (8:Int))=true→(x.secret.length:Int)≤(9223372036854775807:Int)→inOk x=decide ((x.secret.length:Int)≤(64:Int))∧True∧True) ∧
 (decide (x.branch<(8:Int))=false→inOk x=false∧True∧True))∧(decide (x.branch≥(0:Int))=false→inOk x=false∧True∧True)) ∧
 (decide (x.n<(64:Int))=false→inOk x=false∧True∧True))∧(decide (x.n≥(0:Int))=false→inOk x=false∧True∧True)
theorem tright_eq:trightVC=fnS E80 f79 (bodyOf f79) trightLS noAnn:=by kernel_rfl
theorem tright_vc:trightVC:=by
 intro x _
 unfold inOk
 refine ⟨fun h1=>⟨fun h2=>⟨fun h3=>⟨fun h4 _=>?_,fun h4=>?_⟩,fun h3=>?_⟩,fun h2=>?_⟩,fun h1=>?_⟩
 all_goals
  refine ⟨?_,trivial,trivial⟩
  simp only [decide_eq_true_eq,decide_eq_false_iff_not] at *
  first
  | (rw [decide_eq_true (show 0≤x.n by omega),decide_eq_true h2,decide_eq_true (show 0≤x.branch by omega),decide_eq_true h4]; rfl)
  | (rw [decide_eq_false h4]; simp)
  | (rw [decide_eq_false (show ¬0≤x.branch by omega)]; simp)
  | (rw [decide_eq_false h2]; simp)
  | (rw [decide_eq_false (show ¬0≤x.n by omega)]; simp)
theorem tright_ok:Fits E80 f79 (bodyOf f79) trightLS noAnn:=by
 constructor
 rw [← tright_eq]
 exact tright_vc
theorem f66_has:Has prog 79 f79 (bodyOf f79):=⟨by kernel_rfl,by kernel_rfl,by kernel_rfl⟩
theorem known81:Known prog L81:=by
 unfold L81
 exact known80.lent mixed f66_has E80_eq tright_ok (fun _ _=>Nat.le_refl _) (fun _ _=>rfl)
def oddInVC:Prop:=∀ (x:TIn),True→(x.tx=x.tx∧x.n=x.n∧x.branch=x.branch∧x.secret=x.secret∧True)∧True∧True∧(!inOk x)=!inOk (TIn.mk x.tx x.n
 x.branch x.secret)∧True∧True
theorem oddIn_eq:oddInVC=fnS E81 f78 (bodyOf f78) oddInLS noAnn:=by kernel_rfl
theorem oddIn_ok:Fits E81 f78 (bodyOf f78) oddInLS noAnn:=by
 constructor
 rw [← oddIn_eq]
 exact fun x _=>⟨⟨rfl,rfl,rfl,rfl,trivial⟩,trivial,trivial,rfl,trivial,trivial⟩
theorem f65_has:Has prog 78 f78 (bodyOf f78):=⟨by kernel_rfl,by kernel_rfl,by kernel_rfl⟩
theorem known82:Known prog L82:=by
 unfold L82
 exact known81.lent mixed f65_has E81_eq oddIn_ok (fun _ _=>Nat.le_refl _) (fun _ _=>rfl)
theorem dropAt {α:Type} {l:List α} {i:Nat} {y:α} (h:l[i]?=some y):l.drop i=y::l.drop (i+1):=by
 have hl:=(List.getElem?_eq_some_iff.1 h).1
 rw [List.drop_eq_getElem_cons hl]
 rw [List.getElem?_eq_getElem hl] at h
 rw [Option.some.inj h]
def indexInVC:Prop:=∀ (x:List TIn),True→(x.length:Int)≤(9223372036854775807:Int)→(∃ x_1,(x_1≤x.length∧x.length≤(9223372036854775807:Nat)∧badIn x
 (0:Nat)=badIn (List.drop x_1 x) x_1)∧(x_1:Int)=(0:Int)∧True∧True)∧∀ (x_1:Nat),x_1≤x.length∧x.length≤(9223372036854775807 :
 Nat)∧badIn x (0:Nat)=badIn (List.drop x_1 x) x_1→(decide ((x_1:Int)<(x.length:Int))=true→(0:Int)≤(x_1:Int)∧(x_1:Int) <
 (x.length:Int)∧∀ (y:AA (87:Nat)),x[(x_1:Int).toNat]?=some y→(y.tx=y.tx∧y.n=y.n∧y.branch=y.branch∧y.secret=y.secret ∧
 True)∧True∧True∧((!inOk (TIn.mk y.tx y.n y.branch y.secret))=true→badIn x (0:Nat)=(x_1:Int)∧True∧True)∧((!inOk (TIn.mk y.tx y.n
 y.branch y.secret))=false→inI64 ((x_1:Int)+(1:Int))∧∃ y,(y≤x.length∧x.length≤(9223372036854775807:Nat)∧badIn x (0:Nat) =
 badIn (List.drop y x) y)∧x.length-y<x.length-x_1∧(y:Int)=(x_1:Int)+(1:Int)∧True∧True))∧(decide ((x_1:Int)<(↑x.length :
 Int))=false→badIn x (0:Nat)=(-1:Int)∧True∧True)
theorem indexIn_eq:indexInVC=fnS E82 f86 (bodyOf f86) indexInLS indexInAnn:=by kernel_rfl
theorem indexIn_vc:indexInVC:=by
 intro l _
 simp only [true_and,and_true,decide_eq_true_eq,decide_eq_false_iff_not,Int.toNat_natCast]
 refine fun hl=>⟨⟨0,⟨Nat.zero_le _,by omega,rfl⟩,rfl⟩,fun i hi=>⟨fun h=>?_,fun h=>?_⟩⟩
 ·have hi':i<l.length:=by omega
  refine ⟨by omega,h,fun y hy=>⟨fun h1=>?_,fun h1=>⟨by unfold inI64; omega,i+1,⟨hi',hi.2.1,?_⟩,by omega,by omega⟩⟩⟩
  ·rw [hi.2.2,dropAt (α:=TIn) (y:=y) hy]
   have h1':¬inOk y=true:=by
    have:inOk (TIn.mk y.tx y.n y.branch y.secret)=false:=by simpa using h1
    rw [show (y:TIn)=TIn.mk (TIn.tx y) (TIn.n y) (TIn.branch y) (TIn.secret y) from rfl,this]
    simp
   simp only [badIn,if_neg h1']
  ·rw [hi.2.2,dropAt (α:=TIn) (y:=y) hy]
   have h1'':inOk (TIn.mk y.tx y.n y.branch y.secret)=true:=by simpa using h1
   have h1':inOk y=true:=h1''
   simp only [badIn,if_pos h1']
 ·rw [hi.2.2,List.drop_of_length_le (by omega)]
  rfl
theorem indexIn_ok:Fits E82 f86 (bodyOf f86) indexInLS indexInAnn:=by
 constructor
 rw [← indexIn_eq]
 exact indexIn_vc
theorem f103_has:Has prog 86 f86 (bodyOf f86):=⟨by kernel_rfl,by kernel_rfl,by kernel_rfl⟩
theorem known83:Known prog L83:=by
 unfold L83
 exact known82.lent mixed f103_has E82_eq indexIn_ok (fun _ _=>Nat.le_refl _) (fun _ _=>rfl)
def anyInVC:Prop:=∀ (x:List TIn),True→(x=x∧Fn.func (78:FuncId)=Fn.func (78:FuncId)∧True∧True)∧True∧True∧decide (badIn x (0:Nat)≥(0:Int)) =
 decide (badIn x (0:Nat)≥(0:Int))∧True∧True
theorem anyIn_eq:anyInVC=fnS E83 f38 (bodyOf f38) anyInLS noAnn:=by kernel_rfl
theorem anyIn_ok:Fits E83 f38 (bodyOf f38) anyInLS noAnn:=by
 constructor
 rw [← anyIn_eq]
 exact fun x _=>⟨⟨rfl,rfl,trivial,trivial⟩,trivial,trivial,rfl,trivial,trivial⟩
theorem f68_has:Has prog 38 f38 (bodyOf f38):=⟨by kernel_rfl,by kernel_rfl,by kernel_rfl⟩
theorem known84:Known prog L84:=by
 unfold L84
 exact known83.lent mixed f68_has E83_eq anyIn_ok (fun _ _=>Nat.le_refl _) (fun _ _=>rfl)
def someVC:Prop:=∀ (x:Int),True→(decide (x≥(1:Int))=true→someB x=decide (x≤(64:Int))∧True∧True)∧(decide (x≥(1:Int))=false→someB x =
 false∧True∧True)
theorem some_eq:someVC=fnS E84 f80 (bodyOf f80) someLS noAnn:=by kernel_rfl
theorem some_ok:Fits E84 f80 (bodyOf f80) someLS noAnn:=by
 constructor
 rw [← some_eq]
 intro x _
 refine ⟨fun h=>⟨?_,trivial,trivial⟩,fun h=>⟨?_,trivial,trivial⟩⟩
 ·unfold someB; rw [h]; simp
 ·unfold someB; rw [h]; simp
theorem f67_has:Has prog 80 f80 (bodyOf f80):=⟨by kernel_rfl,by kernel_rfl,by kernel_rfl⟩
theorem known85:Known prog L85:=by
 unfold L85
 exact known84.lent mixed f67_has E84_eq some_ok (fun _ _=>Nat.le_refl _) (fun _ _=>rfl)
def ocheckVC:Prop:=∀ (x:TOut),True→(decide (x.amount<(10:Int))=true→(outE x=(27:Int)∧(27:Int)≠(0:Int))∧True∧True)∧(decide (x.amount<(10 :
 Int))=false→(decide (x.amount>(1125899906842624:Int))=true→(outE x=(5:Int)∧(5:Int)≠(0:Int))∧True∧True)∧(decide (x.amount
 > (1125899906842624:Int))=false→(x.cond=x.cond∧True)∧True∧True∧outE x=checkN x.cond∧True∧True))
theorem ocheck_eq:ocheckVC=fnS E85 f81 (bodyOf f81) ocheckLS noAnn:=by kernel_rfl
theorem ocheck_ok:Fits E85 f81 (bodyOf f81) ocheckLS noAnn:=by
 constructor
 rw [← ocheck_eq]
 intro x _
 simp only [true_and,and_true,decide_eq_true_eq,decide_eq_false_iff_not]
 refine ⟨fun h=>⟨?_,by decide⟩,fun h=>⟨fun h2=>⟨?_,by decide⟩,fun h2=>?_⟩⟩
 ·unfold outE; rw [if_pos h]
 ·unfold outE; rw [if_neg h,if_pos h2]
 ·unfold outE; rw [if_neg h,if_neg h2]
theorem f69_has:Has prog 81 f81 (bodyOf f81):=⟨by kernel_rfl,by kernel_rfl,by kernel_rfl⟩
theorem known86:Known prog L86:=by
 unfold L86
 exact known85.lent mixed f69_has E85_eq ocheck_ok (fun _ _=>Nat.le_refl _) (fun _ _=>rfl)
def totalVC:Prop:=∀ (x:TxD),True→(x.outs.length:Int)≤(9223372036854775807:Int)→(∃ (x_1:Nat×Int),TotI x.outs x_1.fst x_1.snd∧((x_1.fst:Int)=(0 :
 Int)∧x_1.snd=(0:Int))∧((x.lock=x.lock∧x.ins=x.ins∧x.outs=x.outs∧True)∧True)∧True)∧∀ (x_1:Nat×Int),TotI x.outs x_1.fst
 x_1.snd→(decide ((x_1.fst:Int)<(x.outs.length:Int))=true→(0:Int)≤(x_1.fst:Int)∧(x_1.fst:Int)<(x.outs.length:Int)∧∀ (y
 : AA (90:Nat)),x.outs[(x_1.fst:Int).toNat]?=some y→(decide (y.amount<(0:Int))=true→((totG x.outs (0:Int)).fst=(0:Int)∧(totG
 x.outs (0:Int)).snd=(5:Int)∧(5:Int)≠(0:Int))∧True∧True)∧(decide (y.amount<(0:Int))=false→inI64 ((1125899906842624:Int) -
 x_1.snd)∧(decide (y.amount>(1125899906842624:Int)-x_1.snd)=true→((totG x.outs (0:Int)).fst=(0:Int)∧(totG x.outs (0:Int)).snd=(5
 : Int)∧(5:Int)≠(0:Int))∧True∧True)∧(decide (y.amount>(1125899906842624:Int)-x_1.snd)=false→inI64 (x_1.snd+y.amount)∧inI64
 ((x_1.fst:Int)+(1:Int))∧∃ (y_1:Nat×Int),TotI x.outs y_1.fst y_1.snd∧x.outs.length-y_1.fst<x.outs.length-x_1.fst∧((↑y_1.fst :
 Int)=(x_1.fst:Int)+(1:Int)∧y_1.snd=x_1.snd+y.amount)∧((x.lock=x.lock∧x.ins=x.ins∧x.outs=x.outs∧True)∧True)∧True))) ∧
 (decide ((x_1.fst:Int)<(x.outs.length:Int))=false→((totG x.outs (0:Int)).fst=x_1.snd∧(totG x.outs (0:Int)).snd=(0:Int))∧True
 ∧ True)
theorem total_eq:totalVC=fnS E86 f82 (bodyOf f82) totalLS totalAnn:=by kernel_rfl
theorem total_vc:totalVC:=by
 rintro ⟨lock,ins,outs⟩ _
 simp only [true_and,and_true,decide_eq_true_eq,decide_eq_false_iff_not,Int.toNat_natCast,ne_eq]
 refine fun hl=>⟨⟨(0,0),⟨Nat.zero_le _,by omega,by simp,by simp,rfl⟩,rfl,rfl⟩,?_⟩
 rintro ⟨i,n⟩ ⟨h1,h2,h3,h4,h5⟩
 simp only at h1 h2 h3 h4 h5 ⊢
 refine ⟨fun h=>?_,fun h=>?_⟩
 ·refine ⟨by omega,h,fun y hy=>?_⟩
  have hd:=dropAt (α:=TOut) (y:=y) hy
  have five:(y.amount<0∨y.amount>1125899906842624-n)→totG outs 0=(0,5):=fun hc=>by
   rw [h5,hd]
   simp only [totG]
   rw [if_pos hc]
  refine ⟨fun hc=>?_,fun hc=>⟨by unfold inI64; omega,fun hc2=>?_,fun hc2=>⟨by unfold inI64; omega,by unfold inI64; omega,(i+1,n+y.amount),⟨?_,h2,?_,?_,?_⟩,?_,?_,?_⟩⟩⟩
  ·rw [five (.inl hc)]; exact ⟨rfl,rfl,by decide⟩
  ·rw [five (.inr hc2)]; exact ⟨rfl,rfl,by decide⟩
  ·simp only; omega
  ·simp only; omega
  ·simp only; omega
  ·rw [h5,hd]
   simp only [totG]
   rw [if_neg (by omega)]
  ·simp only; omega
  ·simp only; omega
  ·rfl
 ·rw [h5,List.drop_of_length_le (by omega)]
  exact ⟨rfl,rfl⟩
theorem total_ok:Fits E86 f82 (bodyOf f82) totalLS totalAnn:=by
 constructor
 rw [← total_eq]
 exact total_vc
theorem f31_has:Has prog 82 f82 (bodyOf f82):=⟨by kernel_rfl,by kernel_rfl,by kernel_rfl⟩
theorem known87:Known prog L87:=by
 unfold L87
 exact known86.lent mixed f31_has E86_eq total_ok (fun _ _=>Nat.le_refl _) (fun _ _=>rfl)
theorem mfind_some {K V:Type} {k:K}:∀ {es:List (K×V)} {j:Nat} {z:V},mfind k es=some (j,z)→es[j]?=some (k,z)
 | [],j,z,h=>by simp [mfind] at h
 | p::l,j,z,h=>by
  simp only [mfind] at h
  split at h
  ·rename_i e
   simp only [Option.some.injEq,Prod.mk.injEq] at h
   obtain ⟨rfl,rfl⟩:=h
   rw [← e]
   rfl
  ·split at h
   ·rename_i i v hv
    simp only [Option.some.injEq,Prod.mk.injEq] at h
    obtain ⟨rfl,rfl⟩:=h
    simpa using mfind_some hv
   ·cases h
theorem mfind_none {K V:Type} {k:K}:∀ {es:List (K×V)},mfind k es=none→k∉es.map (·.1)
 | [],_=>by simp
 | p::l,h=>by
  simp only [mfind] at h
  split at h
  ·cases h
  ·rename_i e
   split at h
   ·cases h
   ·rename_i hv
    simp only [List.map_cons,List.mem_cons,not_or]
    exact ⟨fun e'=>e e'.symm,mfind_none hv⟩
theorem mfind_new {K V:Type} {k:K} {v:V}:∀ {es:List (K×V)},mfind k es=none→mfind k (es++[(k,v)])=some (es.length,v)
 | [],_=>by simp [mfind]
 | p::l,h=>by
  simp only [mfind] at h
  split at h
  ·cases h
  ·rename_i e
   split at h
   ·cases h
   ·rename_i hv
    simp only [List.cons_append,mfind,if_neg e,mfind_new hv,List.length_cons]
theorem mapSet_fst {K V:Type} (es:List (K×V)) (j:Nat) (v:V):(mapSet es j v).map (·.1)=es.map (·.1):=by
 unfold mapSet
 apply List.ext_getElem?
 intro i
 rw [List.getElem?_map,List.getElem?_map,List.getElem?_modify]
 cases es[i]? with
 | none=>rfl
 | some p=>
  simp only [Option.map_some]
  split<;>rfl
theorem mapSet_len {K V:Type} (es:List (K×V)) (j:Nat) (v:V):(mapSet es j v).length=es.length:=by
 simp [mapSet]
theorem mapSet_mem {K V:Type} {es:List (K×V)} {j:Nat} {v:V} {p:K×V} (h:p∈mapSet es j v):p∈es∨p.2=v:=by
 obtain ⟨i,hi⟩:=List.getElem?_of_mem h
 unfold mapSet at hi
 rw [List.getElem?_modify] at hi
 cases hq:es[i]? with
 | none=>rw [hq] at hi; cases hi
 | some q=>
  rw [hq] at hi
  by_cases e:j=i
  ·right
   simp [e] at hi
   rw [← hi]
  ·left
   simp [e] at hi
   rw [← hi]; exact List.mem_of_getElem? hq
theorem take_pts {l:List TIn} {k:Nat} {y:TIn} (h:l[k]?=some y):(l.take (k+1)).map ptOf=(l.take k).map ptOf++[ptOf y]:=by
 rw [List.take_add_one,h]
 simp
theorem MapI.old {l:List TIn} {k:Nat} {es:List (Pt×Int)} {st:List Int} (h:MapI l k es st) {y:TIn} (hy:l[k]?=some y) {j:Nat} {z:Int} (hf:mfind (ptOf y) es=some (j,z)) {i:Nat}:MapI l (k+1) (mapSet es i (z+1)) st:=by
 have hm:=mfind_some hf
 have hk:=(List.getElem?_eq_some_iff.1 hy).1
 have hz:=h.val _ (List.mem_of_getElem? hm)
 have hin:ptOf y∈es.map (·.1):=List.mem_map.2 ⟨_,List.mem_of_getElem? hm,rfl⟩
 refine ⟨hk,by rw [mapSet_len]; exact h.len,by rw [mapSet_fst]; exact h.dis,fun p=>?_,fun p hp=>?_,by rw [mapSet_len]; have:=h.cnt; omega⟩
 ·rw [mapSet_fst,take_pts hy,List.mem_append,List.mem_singleton,h.mem]
  refine ⟨.inl,fun hp=>hp.elim id (fun e=>?_)⟩
  rw [e,← h.mem]
  exact hin
 ·rcases mapSet_mem hp with h1 | h1
  ·have:=h.val p h1; omega
  ·rw [h1]
   omega
theorem MapI.new {l:List TIn} {k:Nat} {es:List (Pt×Int)} {st:List Int} (h:MapI l k es st) {y:TIn} (hy:l[k]?=some y) (hf:mfind (ptOf y) es=none) {i:Nat} {b:Int}:MapI l (k+1) (mapSet (es++[(ptOf y,(0:Int))]) i 1) (st++[b]):=by
 have hm:=mfind_none hf
 have hk:=(List.getElem?_eq_some_iff.1 hy).1
 refine ⟨hk,by rw [mapSet_len]; simp [h.len],?_,fun p=>?_,fun p hp=>?_,by rw [mapSet_len]; have:=h.cnt; simp; omega⟩
 ·rw [mapSet_fst,List.map_append,List.nodup_append]
  refine ⟨h.dis,by simp,fun x hx z hz e=>?_⟩
  simp only [List.map_cons,List.map_nil,List.mem_singleton] at hz
  rw [e,hz] at hx
  exact hm hx
 ·rw [mapSet_fst,take_pts hy,List.map_append,List.mem_append,List.mem_append,h.mem]
  rfl
 ·rcases mapSet_mem hp with h1 | h1
  ·rcases List.mem_append.1 h1 with h2 | h2
   ·have:=h.val p h2; omega
   ·simp only [List.mem_singleton] at h2
    rw [h2]
    simp only
    omega
  ·rw [h1]; omega
theorem sub_len {α:Type}:∀ {a b:List α},a.Nodup→(∀ x,x∈a→x∈b)→a.length≤b.length
 | [],_,_,_=>by simp
 | x::a,b,hn,h=>by
  obtain ⟨s,t,rfl⟩:=List.append_of_mem (h x List.mem_cons_self)
  obtain ⟨h1,h2⟩:=List.nodup_cons.1 hn
  have:=sub_len (b:=s++t) h2 (fun y hy=>by
   have h3:=h y (List.mem_cons_of_mem _ hy)
   have hne:y≠x:=fun e=>h1 (e▸hy)
   simp only [List.mem_append,List.mem_cons] at h3 ⊢
   rcases h3 with h3 | h3 | h3
   ·exact .inl h3
   ·exact absurd h3 hne
   ·exact .inr h3)
  simp only [List.length_append,List.length_cons] at this ⊢
  omega
theorem nodup_of_len {α:Type}:∀ {a b:List α},a.Nodup→(∀ x,x∈a→x∈b)→b.length≤a.length→b.Nodup
 | [],b,_,_,hl=>by
  have:b=[]:=List.eq_nil_of_length_eq_zero (by simpa using hl)
  rw [this]
  exact List.nodup_nil
 | x::a,b,hn,h,hl=>by
  obtain ⟨s,t,rfl⟩:=List.append_of_mem (h x List.mem_cons_self)
  obtain ⟨h1,h2⟩:=List.nodup_cons.1 hn
  have hsub:∀ y,y∈a→y∈s++t:=fun y hy=>by
   have h3:=h y (List.mem_cons_of_mem _ hy)
   have hne:y≠x:=fun e=>h1 (e▸hy)
   simp only [List.mem_append,List.mem_cons] at h3 ⊢
   rcases h3 with h3 | h3 | h3
   ·exact .inl h3
   ·exact absurd h3 hne
   ·exact .inr h3
  simp only [List.length_append,List.length_cons] at hl
  have h4:=nodup_of_len h2 hsub (by simp only [List.length_append]; omega)
  refine List.perm_middle.nodup_iff.2 (List.nodup_cons.2 ⟨fun hx=>?_,h4⟩)
  have h5:=sub_len hn (b:=s++t) (fun y hy=>by
   rcases List.mem_cons.1 hy with e | e
   ·rw [e]; exact hx
   ·exact hsub y e)
  simp only [List.length_append,List.length_cons] at h5
  omega
/-- As many in the map as there are inputs: no point is twice. -/
theorem MapI.end_ {l:List TIn} {es:List (Pt×Int)} {st:List Int} (h:MapI l l.length es st):es.length=l.length↔(l.map ptOf).Nodup:=by
 have hm:=h.mem
 rw [List.take_length] at hm
 have e1:(es.map (·.1)).length=es.length:=List.length_map _
 have e2:(l.map ptOf).length=l.length:=List.length_map _
 constructor
 ·intro hl
  exact nodup_of_len h.dis (fun p hp=>(hm p).1 hp) (by omega)
 ·intro hn
  have h1:=sub_len h.dis (fun p hp=>(hm p).1 hp)
  have h2:=sub_len hn (fun p hp=>(hm p).2 hp)
  omega
def tcheckVC:Prop:=∀ (x:TxD),True→(decide (x.lock<(0:Int))=true→(checkT x=(4:Int)∧(4:Int)≠(0:Int))∧True∧True)∧(decide (x.lock<(0:Int))
 = false→(decide (x.lock>(1099511627776:Int))=true→(checkT x=(4:Int)∧(4:Int)≠(0:Int))∧True∧True)∧(decide (x.lock >
 (1099511627776:Int))=false→(x.ins.length:Int)≤(9223372036854775807:Int)→(x.ins.length:Int)=(x.ins.length:Int)∧True∧True ∧
 ((!someB (x.ins.length:Int))=true→(checkT x=(4:Int)∧(4:Int)≠(0:Int))∧True∧True)∧((!someB (x.ins.length:Int))=false →
 (x.outs.length:Int)≤(9223372036854775807:Int)→(x.outs.length:Int)=(x.outs.length:Int)∧True∧True∧((!someB (x.outs.length:Int))
 = true→(checkT x=(4:Int)∧(4:Int)≠(0:Int))∧True∧True)∧((!someB (x.outs.length:Int))=false→(x.ins=x.ins∧Fn.func (78:FuncId)=Fn.func (78:Nat)∧True∧True)∧True∧True∧(decide (badIn x.ins (0:Nat)≥(0:Int))=true→(checkT x=(4:Int)∧(4:Int)≠(0
 : Int))∧True∧True)∧(decide (badIn x.ins (0:Nat)≥(0:Int))=false→(x.ins.length:Int)≤(9223372036854775807:Int)→(∃ (x_1:MapX),
 MapI x.ins x_1.k x_1.es x_1.st∧(x_1.k:Int)=(0:Int)∧((x.lock=x.lock∧x.ins=x.ins∧x.outs=x.outs∧True)∧(x_1.es=[]∧x_1.st=[])
 ∧ True)∧True)∧∀ (x_1:MapX),MapI x.ins x_1.k x_1.es x_1.st→(decide ((x_1.k:Int)<(x.ins.length:Int))=true→(0:Int)≤(x_1.k:Int)
 ∧ (x_1.k:Int)<(x.ins.length:Int)∧∀ (y:AA (87:Nat)),x.ins[(x_1.k:Int).toNat]?=some y→((y.tx=y.tx∧y.n=y.n∧True)∧(∀ (j :
 Nat) (z:Int),mfind (Pt.mk y.tx y.n) x_1.es=some (j,z)→inI64 (z+(1:Int))∧(y.tx=y.tx∧y.n=y.n∧True)∧(∀ (j:Nat) (z_1:Int),
 mfind (Pt.mk y.tx y.n) x_1.es=some (j,z_1)→∀ (b:Int),x_1.st[j]?=some b→(z+(1:Int)=z+(1:Int)∧True)∧∃ j,x_1.st[j]?=some b ∧
 inI64 ((x_1.k:Int)+(1:Int))∧∃ (y:MapX),MapI x.ins y.k y.es y.st∧x.ins.length-y.k<x.ins.length-x_1.k∧(y.k:Int)=(x_1.k:Int)
 + (1:Int)∧((x.lock=x.lock∧x.ins=x.ins∧x.outs=x.outs∧True)∧(y.es=mapSet x_1.es j (z+(1:Int))∧y.st=x_1.st)∧True)∧True) ∧
 (mfind (Pt.mk y.tx y.n) x_1.es=none→∀ (b:Int),¬b∈x_1.st→x_1.es.length=x_1.st.length→((0:Int)=(0:Int)∧True)∧(z+(1:Int)=z
 + (1:Int)∧True)∧∃ j,(x_1.st++[b])[j]?=some b∧inI64 ((x_1.k:Int)+(1:Int))∧∃ (y_1:MapX),MapI x.ins y_1.k y_1.es y_1.st ∧
 x.ins.length-y_1.k<x.ins.length-x_1.k∧(y_1.k:Int)=(x_1.k:Int)+(1:Int)∧((x.lock=x.lock∧x.ins=x.ins∧x.outs=x.outs∧True)
 ∧ (y_1.es=mapSet (x_1.es++[(Pt.mk y.tx y.n,(0:Int))]) j (z+(1:Int))∧y_1.st=x_1.st++[b])∧True)∧True))∧(mfind (Pt.mk y.tx y.n)
 x_1.es=none→(y.tx=y.tx∧y.n=y.n∧True)∧(∀ (j:Nat) (z:Int),mfind (Pt.mk y.tx y.n) x_1.es=some (j,z)→∀ (b:Int),x_1.st[j]?=some
 b→(wr IntKind.i64 ((0:Int)+(1:Int))=wr IntKind.i64 ((0:Int)+(1:Int))∧True)∧∃ j,x_1.st[j]?=some b∧inI64 ((x_1.k:Int)+(1 :
 Int))∧∃ (y:MapX),MapI x.ins y.k y.es y.st∧x.ins.length-y.k<x.ins.length-x_1.k∧(y.k:Int)=(x_1.k:Int)+(1:Int)∧((x.lock =
 x.lock∧x.ins=x.ins∧x.outs=x.outs∧True)∧(y.es=mapSet x_1.es j (wr IntKind.i64 ((0:Int)+(1:Int)))∧y.st=x_1.st)∧True)∧True) ∧
 (mfind (Pt.mk y.tx y.n) x_1.es=none→∀ (b:Int),¬b∈x_1.st→x_1.es.length=x_1.st.length→((0:Int)=(0:Int)∧True)∧(wr IntKind.i64 ((0
 : Int)+(1:Int))=wr IntKind.i64 ((0:Int)+(1:Int))∧True)∧∃ j,(x_1.st++[b])[j]?=some b∧inI64 ((x_1.k:Int)+(1:Int))∧∃ (y_1
 : MapX),MapI x.ins y_1.k y_1.es y_1.st∧x.ins.length-y_1.k<x.ins.length-x_1.k∧(y_1.k:Int)=(x_1.k:Int)+(1:Int)∧((x.lock=x.lock
 ∧ x.ins=x.ins∧x.outs=x.outs∧True)∧(y_1.es=mapSet (x_1.es++[(Pt.mk y.tx y.n,(0:Int))]) j (wr IntKind.i64 ((0:Int)+(1:Int))) ∧
 y_1.st=x_1.st++[b])∧True)∧True)))∧(y.tx=y.tx∧y.n=y.n∧True)∧(∀ (j:Nat) (z:Int),mfind (Pt.mk y.tx y.n) x_1.es=some (j,z)→∀
 (b:Int),x_1.st[j]?=some b→(y.tx=y.tx∧y.n=y.n∧True)∧(∀ (j:Nat) (z:Int),mfind (Pt.mk y.tx y.n) x_1.es=some (j,z)→inI64 (z+(1
 : Int))∧(z+(1:Int)=z+(1:Int)∧True)∧∃ j,x_1.st[j]?=some b∧inI64 ((x_1.k:Int)+(1:Int))∧∃ (y:MapX),MapI x.ins y.k y.es
 y.st∧x.ins.length-y.k<x.ins.length-x_1.k∧(y.k:Int)=(x_1.k:Int)+(1:Int)∧((x.lock=x.lock∧x.ins=x.ins∧x.outs=x.outs ∧
 True)∧(y.es=mapSet x_1.es j (z+(1:Int))∧y.st=x_1.st)∧True)∧True)∧(mfind (Pt.mk y.tx y.n) x_1.es=none→(wr IntKind.i64 ((0:Int) +
 (1:Int))=wr IntKind.i64 ((0:Int)+(1:Int))∧True)∧∃ j,x_1.st[j]?=some b∧inI64 ((x_1.k:Int)+(1:Int))∧∃ (y:MapX),MapI x.ins
 y.k y.es y.st∧x.ins.length-y.k<x.ins.length-x_1.k∧(y.k:Int)=(x_1.k:Int)+(1:Int)∧((x.lock=x.lock∧x.ins=x.ins∧x.outs =
 x.outs∧True)∧(y.es=mapSet x_1.es j (wr IntKind.i64 ((0:Int)+(1:Int)))∧y.st=x_1.st)∧True)∧True))∧(mfind (Pt.mk y.tx y.n) x_1.es =
 none→∀ (b:Int),¬b∈x_1.st→x_1.es.length=x_1.st.length→((0:Int)=(0:Int)∧True)∧(y.tx=y.tx∧y.n=y.n∧True)∧(∀ (j:Nat) (z :
 Int),mfind (Pt.mk y.tx y.n) (x_1.es++[(Pt.mk y.tx y.n,(0:Int))])=some (j,z)→inI64 (z+(1:Int))∧(z+(1:Int)=z+(1:Int)∧True) ∧
 ∃ j,(x_1.st++[b])[j]?=some b∧inI64 ((x_1.k:Int)+(1:Int))∧∃ (y_1:MapX),MapI x.ins y_1.k y_1.es y_1.st∧x.ins.length-y_1.k <
 x.ins.length-x_1.k∧(y_1.k:Int)=(x_1.k:Int)+(1:Int)∧((x.lock=x.lock∧x.ins=x.ins∧x.outs=x.outs∧True)∧(y_1.es=mapSet
 (x_1.es++[(Pt.mk y.tx y.n,(0:Int))]) j (z+(1:Int))∧y_1.st=x_1.st++[b])∧True)∧True)∧(mfind (Pt.mk y.tx y.n) (x_1.es++[(Pt.mk y.tx
 y.n,(0:Int))])=none→(wr IntKind.i64 ((0:Int)+(1:Int))=wr IntKind.i64 ((0:Int)+(1:Int))∧True)∧∃ j,(x_1.st++[b])[j]?=some b
 ∧ inI64 ((x_1.k:Int)+(1:Int))∧∃ (y_1:MapX),MapI x.ins y_1.k y_1.es y_1.st∧x.ins.length-y_1.k<x.ins.length-x_1.k∧(y_1.k:Int) =
 (x_1.k:Int)+(1:Int)∧((x.lock=x.lock∧x.ins=x.ins∧x.outs=x.outs∧True)∧(y_1.es=mapSet (x_1.es++[(Pt.mk y.tx y.n,(0:Int))]) j
 (wr IntKind.i64 ((0:Int)+(1:Int)))∧y_1.st=x_1.st++[b])∧True)∧True)))∧(decide ((x_1.k:Int)<(x.ins.length:Int))=false →
 (x.ins.length:Int)≤(9223372036854775807:Int)→(((x_1.es.length:Int) != (x.ins.length:Int))=true→(checkT x=(9:Int)∧(9:Int) ≠
 (0:Int))∧True∧True)∧(((x_1.es.length:Int) != (x.ins.length:Int))=false→(x.outs.length:Int)≤(9223372036854775807:Int)→(∃ x_2,
 (x_2≤x.outs.length∧outsE x.outs=outsE (List.drop x_2 x.outs))∧(x_2:Int)=(0:Int)∧((x.lock=x.lock∧x.ins=x.ins∧x.outs=x.outs ∧
 True)∧(x_1.es=x_1.es∧x_1.st=x_1.st)∧True)∧True)∧∀ (x_2:Nat),x_2≤x.outs.length∧outsE x.outs=outsE (List.drop x_2 x.outs) →
 (decide ((x_2:Int)<(x.outs.length:Int))=true→(0:Int)≤(x_2:Int)∧(x_2:Int)<(x.outs.length:Int)∧∀ (y:AA (90:Nat)),
 x.outs[(x_2:Int).toNat]?=some y→(y.amount=y.amount∧y.cond=y.cond∧True)∧True∧True∧((!outE (TOut.mk y.amount y.cond)==(0:Int)) =
 true→checkT x=outE (TOut.mk y.amount y.cond)∧True∧True)∧((!outE (TOut.mk y.amount y.cond)==(0:Int))=false→inI64 ((x_2:Int)+(1 :
 Int))∧∃ y,(y≤x.outs.length∧outsE x.outs=outsE (List.drop y x.outs))∧x.outs.length-y<x.outs.length-x_2∧(y:Int)=(x_2:Int)+(1
 : Int)∧((x.lock=x.lock∧x.ins=x.ins∧x.outs=x.outs∧True)∧(x_1.es=x_1.es∧x_1.st=x_1.st)∧True)∧True))∧(decide ((x_2:Int) <
 (x.outs.length:Int))=false→(x.lock=x.lock∧x.ins=x.ins∧x.outs=x.outs∧True)∧True∧True∧checkT x=(totG x.outs (0:Int)).snd ∧
 True∧True))))))))
theorem tcheck_eq:tcheckVC=fnS E87 f35 (bodyOf f35) tcheckLS tcheckAnn:=by kernel_rfl
theorem tcheck_vc:tcheckVC:=by
 rintro ⟨lock,ins,outs⟩ _
 have e1:wr .i64 ((0:Int)+1)=1:=by decide
 have c4:(lock<0∨lock>1099511627776∨someB (ins.length:Int)=false∨someB (outs.length:Int)=false∨badIn ins 0≥0)→checkT (TxD.mk lock ins outs)=4∧(4:Int)≠0:=fun h=>⟨by unfold checkT; rw [if_pos h],by decide⟩
 simp only [true_and,and_true,decide_eq_true_eq,decide_eq_false_iff_not,Int.toNat_natCast,Bool.not_eq_true',Bool.not_eq_false',beq_iff_eq,beq_eq_false_iff_ne,bne_iff_ne,bne_eq_false_iff_eq,e1]
 refine ⟨fun h1=>c4 (.inl h1),fun h1=>⟨fun h2=>c4 (.inr (.inl h2)),fun h2 _=>⟨fun h3=>c4 (.inr (.inr (.inl h3))),fun h3 _=>⟨fun h4=>c4 (.inr (.inr (.inr (.inl h4)))),fun h4=>⟨fun h5=>c4 (.inr (.inr (.inr (.inr h5)))),fun h5 _=>⟨⟨⟨0,[],[]⟩,⟨Nat.zero_le _,rfl,by simp,by simp,by simp,by simp⟩,rfl,rfl,rfl⟩,?_⟩⟩⟩⟩⟩⟩
 have hle:ins.length≤64:=by
  unfold someB at h3
  simp only [Bool.and_eq_true,decide_eq_true_eq] at h3
  omega
 have hno:¬(lock<0∨lock>1099511627776∨someB (ins.length:Int)=false∨someB (outs.length:Int)=false∨badIn ins 0≥0):=by
  rw [h3,h4]
  simp only [Bool.true_eq_false,false_or]
  omega
 rintro ⟨k,es,st⟩ hm
 simp only at hm ⊢
 refine ⟨fun h6=>?_,fun h6 _=>?_⟩
 ·have hk':k<ins.length:=by omega
  refine ⟨by omega,h6,fun y hy=>?_⟩
  have kk:inI64 ((k:Int)+1):=by unfold inI64; omega
  have hpt:Pt.mk y.tx y.n=ptOf y:=rfl
  rw [hpt]
  have zz:∀ {j:Nat} {z:Int},mfind (ptOf y) es=some (j,z)→inI64 (z+1):=fun {j z} hf=>by
   have:=hm.val _ (List.mem_of_getElem? (mfind_some hf))
   simp only at this
   unfold inI64
   omega
  have old:∀ {j:Nat} {z:Int} (i:Nat),mfind (ptOf y) es=some (j,z)→∃ x:MapX,MapI ins x.k x.es x.st∧ins.length-x.k<ins.length-k∧(x.k:Int)=(k:Int)+1∧x.es=mapSet es i (z+1)∧x.st=st:=fun {j z} i hf=>
   ⟨⟨k+1,mapSet es i (z+1),st⟩,hm.old hy hf,by simp only; omega,by simp only; omega,rfl,rfl⟩
  have new:∀ (i:Nat) (b:Int),mfind (ptOf y) es=none→∃ x:MapX,MapI ins x.k x.es x.st∧ins.length-x.k<ins.length-k∧(x.k:Int)=(k:Int)+1∧x.es=mapSet (es++[(ptOf y,0)]) i 1∧x.st=st++[b]:=fun i b hn=>
   ⟨⟨k+1,mapSet (es++[(ptOf y,0)]) i 1,st++[b]⟩,hm.new hy hn,by simp only; omega,by simp only; omega,rfl,rfl⟩
  have app:∀ b:Int,(st++[b])[st.length]?=some b:=fun b=>by simp
  refine ⟨⟨fun j z hf=>⟨zz hf,fun j2 z2 _ b hb=>⟨j2,hb,kk,old _ hf⟩,fun hn=>?_⟩,fun hn=>⟨fun j2 z2 hf _ _=>?_,fun _ b _ _=>⟨st.length,app b,kk,new _ _ hn⟩⟩⟩,
   ⟨fun j z hf b hb=>⟨fun j2 z2 hf2=>⟨zz hf2,j,hb,kk,old _ hf2⟩,fun hn=>?_⟩,fun hn b _ _=>⟨fun j2 z2 hf2=>?_,fun hn2=>?_⟩⟩⟩
  ·rw [hf] at hn; cases hn
  ·rw [hn] at hf; cases hf
  ·rw [hf] at hn; cases hn
  ·rw [mfind_new hn] at hf2
   cases hf2
   exact ⟨by unfold inI64; omega,st.length,app b,kk,new _ _ hn⟩
  ·rw [mfind_new hn] at hn2
   cases hn2
 ·have hkl:k=ins.length:=by have:=hm.le; omega
  subst hkl
  have hend:=hm.end_
  refine ⟨fun h7=>⟨?_,by decide⟩,fun h7 _=>?_⟩
  ·unfold checkT
   rw [if_neg hno,if_pos (fun hn=>h7 (by have:=hend.2 hn; omega))]
  have hnd:(ins.map ptOf).Nodup:=hend.1 (by omega)
  have hck:checkT (TxD.mk lock ins outs)=if outsE outs≠0 then outsE outs else (totG outs 0).2:=by
   unfold checkT
   rw [if_neg hno,if_neg (fun h=>h hnd)]
  refine ⟨⟨0,⟨Nat.zero_le _,rfl⟩,rfl⟩,fun i hi=>⟨fun h8=>?_,fun h8=>?_⟩⟩
  ·have hi':i<outs.length:=by omega
   refine ⟨by omega,h8,fun y hy=>?_⟩
   have hd:=dropAt (α:=TOut) (y:=y) hy
   have hy':outE (TOut.mk y.amount y.cond)=outE y:=rfl
   rw [hy']
   refine ⟨fun h9=>?_,fun h9=>⟨by unfold inI64; omega,i+1,⟨hi',?_⟩,by omega,by omega⟩⟩
   ·have he:outsE outs=outE y:=by
     rw [hi.2,hd]
     simp only [outsE]
     rw [if_neg h9]
    rw [hck,he,if_pos h9]
   ·rw [hi.2,hd]
    simp only [outsE]
    rw [if_pos h9]
  ·have he:outsE outs=0:=by
    rw [hi.2,List.drop_of_length_le (by omega)]
    rfl
   rw [hck,he,if_neg (fun h=>h rfl)]
theorem tcheck_ok:Fits E87 f35 (bodyOf f35) tcheckLS tcheckAnn:=by
 constructor
 rw [← tcheck_eq]
 exact tcheck_vc
theorem f35_has:Has prog 35 f35 (bodyOf f35):=⟨by kernel_rfl,by kernel_rfl,by kernel_rfl⟩
theorem known88:Known prog L88:=by
 unfold L88
 exact known87.lent mixed f35_has E87_eq tcheck_ok (fun _ _=>Nat.le_refl _) (fun _ _=>rfl)
end Go.Proofs.YtcglahfmnoghjaaGreatDoor

/-! A transaction's bytes, its sum; the totals' law: what is said of them. Conditions: none. -/
namespace Go.Proofs.YtcglahfmnoghjaaGreatDoor
open Go Go.Eng Go.Proofs.Tryz
/-- Bytes, so told that their end is seen. -/
def stuffB:List Int→List Int
 | []=>[]
 | c::l=>if c=0 then 0::255::stuffB l else c::stuffB l
def bytesB (xs:List Int):List Int:=stuffB xs++[0,0]
structure BB where
 xs:List Int
 b:List Int
structure BB.Ok (x:BB):Prop where
 len:x.xs.length≤1000000000000
 b:x.b.length≤1000000000
def wBytesLS:LS AA where
 X:=BB
 pre:=BB.Ok
 args:=fun x=>[.ptr 0 0,.rints .u8 x.b]
 hin:=fun x=>[wcell 1,.ivec 5 .u8 x.xs]
 res:=fun _=>[.ptr 0 0]
 hout:=fun x=>[wcell 2,.dead,.ivec 5 .u8 (x.xs++bytesB x.b)]
def wBytesGet (args:List (SV AA)) (sh:List (SO AA)):Option BB:=match args with
 | [w,s]=>match lineOf sh w,gI .u8 sh s with
  | some xs,some b=>some ⟨xs,b⟩
  | _,_=>none
 | _=>none
def wBytesAnn (x:BB):Anns AA:=fun _ _ _=>some {
 X:=Nat
 inv:=fun n=>n≤x.b.length
 meas:=fun n=>x.b.length-n
 slots:=fun n=>[(11,.int .i64 n)]
 heap:=fun _=>[(0,wcell 2),(1,.dead)]
 more:=fun n=>[.ivec 5 .u8 (x.xs++stuffB (x.b.take n))] }
noncomputable def L89:List (Nat×SpecT AA):=(119,tLent wBytesLS wBytesGet)::L88
noncomputable def E89:Eng AA:=EE prog L89
theorem E89_eq:E89=EE prog L89:=by
 unfold E89
 rfl
def inB (sec:TIn→List Int) (x:TIn):List Int:=x.tx++uintB (wr .u64 x.n)++uintB (wr .u64 x.branch)++bytesB (sec x)
def insB (sec:TIn→List Int):List TIn→List Int
 | []=>[]
 | x::l=>inB sec x++insB sec l
def toutB (o:TOut):List Int:=uintB (wr .u64 o.amount)++putB o.cond
def toutsB:List TOut→List Int
 | []=>[]
 | o::l=>toutB o++toutsB l
def putTx (sec:TIn→List Int) (t:TxD):List Int:=uintB (wr .u64 t.lock)++uintB (wr .u64 (t.ins.length:Int))++insB sec t.ins++uintB (wr .u64 (t.outs.length:Int))++toutsB t.outs
def sumW:List TOut→Nat
 | []=>0
 | o::l=>weight o.cond+sumW l
def Byt (l:List Int):Prop:=∀ y,y∈l→0≤y∧y<256
structure TxOk (t:TxD):Prop where
 n:t.ins.length≤2000000
 m:t.outs.length≤2000000
 w:sumW t.outs≤2000000
 tx:∀ x,x∈t.ins→x.tx.length=32∧Byt x.tx
 locks:∀ o,o∈t.outs→Locks o.cond∧∀ b,b∈o.cond→Byt b.lock
/-- A closure that put is handed: what it tells of an input. -/
def secOf (g:Nat):TIn→List Int:=cond (Nat.beq g 76) (fun _=>[]) (fun x=>x.secret)
/-- What a closure hands back: nothing. -/
def id1LS:LS AA where
 X:=TIn
 pre:=fun _=>True
 args:=fun x=>[.agg (tinSL x)]
 hin:=fun _=>[]
 res:=fun _=>[.val (.slice none 0 0)]
 hout:=fun _=>[]
noncomputable def L90:List (Nat×SpecT AA):=(76,tLent id1LS tinGet)::L89
noncomputable def E90:Eng AA:=EE prog L90
theorem E90_eq:E90=EE prog L90:=by
 unfold E90
 rfl
def tputAnn:Anns AA:=fun k ts sh=>if k=4 then (match writerAt ts sh 5,nth ts 1,nth ts 22 with
  | some (i,j,xs),some (.fn (.func g) _ _),some (.rseq u l0)=>match castL 87 l0 with
   | some l=>some {
    X:=Nat
    inv:=fun n=>n≤l.length
    meas:=fun n=>l.length-n
    slots:=fun n=>[(24,.int .i64 n)]
    heap:=fun _=>[(i,wcell (cnt sh)),(j,.dead)]
    more:=fun n=>[.ivec 5 .u8 (xs++insB (secOf g) (l.take n))] }
   | none=>none
  | _,_,_=>none)
 else (match nth ts 8,nth ts 55 with
  | some (.vec j),some (.rseq u l0)=>match nth sh j,castL 90 l0 with
   | some (.ivec _ _ xs),some l=>some {
    X:=Nat
    inv:=fun n=>n≤l.length
    meas:=fun n=>l.length-n
    slots:=fun n=>[(57,.int .i64 n),(8,.vec (cnt sh))]
    heap:=fun _=>[(j,.dead)]
    more:=fun n=>[.ivec 5 .u8 (xs++toutsB (l.take n))] }
   | _,_=>none
  | _,_=>none)
noncomputable def L91:List (Nat×SpecT AA):=(75,tInline E90 f75 (bodyOf f75) tputAnn)::L90
noncomputable def E91:Eng AA:=EE prog L91
theorem E91_eq:E91=EE prog L91:=by
 unfold E91
 rfl
noncomputable def idB (t:TxD):List Int:=sumB orderL (putTx (fun _=>[]) t)
noncomputable def idLS:LS AA where
 X:=TxD
 pre:=TxOk
 args:=fun t=>[.agg (txSL t)]
 hin:=fun _=>[]
 res:=fun t=>[hashV (idB t)]
 hout:=fun _=>[]
noncomputable def L92:List (Nat×SpecT AA):=(31,tLent idLS txGet)::L91
noncomputable def E92:Eng AA:=EE prog L92
theorem E92_eq:E92=EE prog L92:=by
 unfold E92
 rfl
structure AtX where
 t:TxD
 n:Int
noncomputable def atLS:LS AA where
 X:=AtX
 pre:=fun x=>TxOk x.t
 args:=fun x=>[.agg (txSL x.t),.int .i64 x.n]
 hin:=fun _=>[]
 res:=fun x=>[.agg (.run .u8 32 (idB x.t) (.cell (.int .i64 x.n) .nil))]
 hout:=fun _=>[]
def atGet (args:List (SV AA)) (sh:List (SO AA)):Option AtX:=match args with
 | [t,n]=>match decTx sh t,asI n with
  | some t,some n=>some ⟨t,n⟩
  | _,_=>none
 | _=>none
noncomputable def L93:List (Nat×SpecT AA):=(17,tLent atLS atGet)::L92
noncomputable def E93:Eng AA:=EE prog L93
theorem E93_eq:E93=EE prog L93:=by
 unfold E93
 rfl
noncomputable def L94:List (Nat×SpecT AA):=(9,tLent sureLS sureGet)::L93
noncomputable def E94:Eng AA:=EE prog L94
theorem E94_eq:E94=EE prog L94:=by
 unfold E94
 rfl
def txRSL (t:TxD):SL AA := .cell (.int .i64 t.lock) (.cell (.rseq 80 (show List (AA 80) from t.ins)) (.cell (.rseq 82 (show List (AA 82) from t.outs)) .nil))
def decTxR (sh:List (SO AA)):SV AA→Option TxD
 | .agg (.cell l (.cell a (.cell b .nil)))=>match asI l,seqOfS 80 sh a,seqOfS 82 sh b with
  | some l,some a,some b=>some ⟨l,a,b⟩
  | _,_,_=>none
 | _=>none
def rTotalLS:LS AA where
 X:=TxD
 pre:=fun _=>True
 args:=fun t=>[.agg (txRSL t)]
 hin:=fun _=>[]
 res:=fun t=>[.int .i64 (totG t.outs 0).1,.int .i64 (totG t.outs 0).2]
 hout:=fun _=>[]
def txRGet (args:List (SV AA)) (sh:List (SO AA)):Option TxD:=match args with
 | [x]=>decTxR sh x
 | _=>none
def rTotalAnn (t:TxD):Anns AA:=fun _ _ _=>some {
 X:=Nat×Int
 inv:=fun x=>x.1≤t.outs.length∧0≤x.2∧x.2≤1125899906842624∧totG t.outs 0=totG (t.outs.drop x.1) x.2
 meas:=fun x=>t.outs.length-x.1
 slots:=fun x=>[(5,.int .i64 x.1),(4,.int .i64 x.2)]
 heap:=fun _=>[] }
noncomputable def L95:List (Nat×SpecT AA):=(115,tLent rTotalLS txRGet)::L94
end Go.Proofs.YtcglahfmnoghjaaGreatDoor

/-! A transaction's bytes, its sum; the totals' law: plain laws; the walks hold. Conditions: none. -/
namespace Go.Proofs.YtcglahfmnoghjaaGreatDoor
open Go Go.Eng Go.Proofs.Tryz
theorem stuffB_le:∀ l:List Int,(stuffB l).length≤2*l.length
 | []=>by simp [stuffB]
 | c::l=>by
  have:=stuffB_le l
  simp only [stuffB]
  split<;>simp only [List.length_cons]<;>omega
theorem stuffB_app:∀ a b:List Int,stuffB (a++b)=stuffB a++stuffB b
 | [],b=>rfl
 | c::a,b=>by
  simp only [List.cons_append,stuffB]
  split<;>simp [stuffB_app a b]
theorem stuffB_take_le (l:List Int) (i:Nat):(stuffB (l.take i)).length≤2*l.length:=by
 have h1:=stuffB_le (l.take i)
 have h2:(l.take i).length≤l.length:=by rw [List.length_take]; omega
 omega
def wBytesVC:Prop:=∀ (x:BB),x.Ok→(x.b.length:Int)≤(9223372036854775807:Int)→(∃ x_1,Nat.le x_1 x.b.length∧(x_1:Int)=(0:Int)∧((True∧True) ∧
 True)∧x.xs++stuffB (List.take x_1 x.b)=x.xs∧True)∧∀ (x_1:Nat),x_1.le x.b.length→(decide ((x_1:Int)<(x.b.length:Int))=true→(0
 : Int)≤(x_1:Int)∧(x_1:Int)<(x.b.length:Int)∧(x_1:Int).toNat<x.b.length∧((x.xs++stuffB (List.take x_1 x.b)).length+[x.b.getD
 (x_1:Int).toNat (0:Int)].length)*(1:Nat)≤(140737488355328:Nat)∧(x.xs++stuffB (List.take x_1 x.b)).length+[x.b.getD (↑x_1 :
 Int).toNat (0:Int)].length≤(1152921504606846976:Nat)∧((x.b.getD (x_1:Int).toNat (0:Int)==(0:Int))=true→((x.xs++stuffB (List.take
 x_1 x.b)++[x.b.getD (x_1:Int).toNat (0:Int)]).length+[(255:Int)].length)*(1:Nat)≤(140737488355328:Nat)∧(x.xs++stuffB (List.take
 x_1 x.b)++[x.b.getD (x_1:Int).toNat (0:Int)]).length+[(255:Int)].length≤(1152921504606846976:Nat)∧inI64 ((x_1:Int)+(1:Int))∧∃
 y,Nat.le y x.b.length∧x.b.length-y<x.b.length-x_1∧(y:Int)=(x_1:Int)+(1:Int)∧((True∧True)∧True)∧x.xs++stuffB (List.take
 y x.b)=x.xs++stuffB (List.take x_1 x.b)++[x.b.getD (x_1:Int).toNat (0:Int)]++[(255:Int)]∧True)∧((x.b.getD (x_1:Int).toNat (0 :
 Int)==(0:Int))=false→inI64 ((x_1:Int)+(1:Int))∧∃ y,Nat.le y x.b.length∧x.b.length-y<x.b.length-x_1∧(y:Int)=(↑x_1 :
 Int)+(1:Int)∧((True∧True)∧True)∧x.xs++stuffB (List.take y x.b)=x.xs++stuffB (List.take x_1 x.b)++[x.b.getD (x_1:Int).toNat (0 :
 Int)]∧True))∧(decide ((x_1:Int)<(x.b.length:Int))=false→((x.xs++stuffB (List.take x_1 x.b)).length+[(0:Int),(0:Int)].length) *
 (1:Nat)≤(140737488355328:Nat)∧(x.xs++stuffB (List.take x_1 x.b)).length+[(0:Int),(0:Int)].length≤(1152921504606846976:Nat)∧True
 ∧ ((True∧True)∧True)∧x.xs++bytesB x.b=x.xs++stuffB (List.take x_1 x.b)++[(0:Int),(0:Int)]∧True)
theorem wBytes_eq:wBytesVC=fnS E88 f119 (bodyOf f119) wBytesLS wBytesAnn:=by kernel_rfl
theorem wBytes_vc:wBytesVC:=by
 rintro ⟨xs,b⟩ ⟨hl,hb⟩
 simp only at hl hb
 simp only [true_and,and_true,decide_eq_true_eq,decide_eq_false_iff_not,Int.toNat_natCast,List.length_append,List.length_singleton,List.length_cons,List.length_nil,beq_iff_eq,beq_eq_false_iff_ne,ne_eq]
 refine fun _=>⟨⟨0,Nat.zero_le _,rfl,by simp [stuffB]⟩,fun i hi=>⟨fun h=>?_,fun h=>?_⟩⟩
 ·have hi':i<b.length:=by omega
  have p1:=stuffB_take_le b i
  have hup:=take_up hi' rfl
  refine ⟨by omega,h,hi',by omega,by omega,fun h0=>⟨by omega,by omega,by unfold inI64; omega,i+1,hi',by omega,by omega,?_⟩,fun h0=>⟨by unfold inI64; omega,i+1,hi',by omega,by omega,?_⟩⟩
  ·rw [hup,stuffB_app,h0]
   simp [stuffB]
  ·rw [hup,stuffB_app]
   simp only [stuffB,if_neg h0,List.append_assoc]
 ·have p1:=stuffB_take_le b i
  refine ⟨by omega,by omega,?_⟩
  rw [List.take_of_length_le (by omega)]
  simp [bytesB]
theorem wBytes_ok:Fits E88 f119 (bodyOf f119) wBytesLS wBytesAnn:=by
 constructor
 rw [← wBytes_eq]
 exact wBytes_vc
theorem f104_has:Has prog 119 f119 (bodyOf f119):=⟨by kernel_rfl,by kernel_rfl,by kernel_rfl⟩
theorem known89:Known prog L89:=by
 unfold L89
 exact known88.lent mixed f104_has E88_eq wBytes_ok (fun _ _=>by simp [wBytesLS]) (fun h=>by cases h)
def id1VC:Prop:=∀ (x:TIn),True→(SV.val (A:=AA) (Value.slice none (0:Nat) (0:Nat)):SV AA)=SV.val (A:=AA) (Value.slice none (0:Nat) (0:Nat))∧True
 ∧ True
theorem id1_eq:id1VC=fnS E89 f76 (bodyOf f76) id1LS noAnn:=by kernel_rfl
theorem id1_ok:Fits E89 f76 (bodyOf f76) id1LS noAnn:=by
 constructor
 rw [← id1_eq]
 exact fun _ _=>⟨rfl,trivial,trivial⟩
theorem f71_has:Has prog 76 f76 (bodyOf f76):=⟨by kernel_rfl,by kernel_rfl,by kernel_rfl⟩
theorem known90:Known prog L90:=by
 unfold L90
 exact known89.lent mixed f71_has E89_eq id1_ok (fun _ _=>Nat.le_refl _) (fun _ _=>rfl)
theorem f70_has:Has prog 75 f75 (bodyOf f75):=⟨by kernel_rfl,by kernel_rfl,by kernel_rfl⟩
theorem known91:Known prog L91:=by
 unfold L91
 exact known90.inl mixed f70_has E90_eq (by rfl)
theorem byt_app {a b:List Int} (ha:Byt a) (hb:Byt b):Byt (a++b):=fun y hy=>by
 rcases List.mem_append.1 hy with h | h
 ·exact ha y h
 ·exact hb y h
theorem byt_nil:Byt []:=fun y h=>by cases h
theorem uintB_byt (x:Int):Byt (uintB (wr .u64 x)):=fun y hy=>by
 rcases List.mem_cons.1 hy with h | h
 ·have:=digs_le (u64_wr x)
  rw [h]
  omega
 ·exact digs_byte h
theorem keysB_byt:∀ l:List Int,Byt (keysB l)
 | []=>byt_nil
 | k::l=>byt_app (uintB_byt k) (keysB_byt l)
theorem brsB_byt:∀ {l:List Br},(∀ b,b∈l→Byt b.lock)→Byt (brsB l)
 | [],_=>byt_nil
 | b::l,h=>by
  refine byt_app ?_ (brsB_byt fun c hc=>h c (List.mem_cons_of_mem _ hc))
  exact byt_app (byt_app (byt_app (byt_app (uintB_byt _) (keysB_byt _)) (h b List.mem_cons_self)) (uintB_byt _)) (uintB_byt _)
theorem stuffB_byt:∀ {l:List Int},Byt l→Byt (stuffB l)
 | [],_=>byt_nil
 | c::l,h=>by
  have h1:=stuffB_byt (l:=l) (fun y hy=>h y (List.mem_cons_of_mem _ hy))
  have h2:=h c List.mem_cons_self
  intro y hy
  simp only [stuffB] at hy
  split at hy
  ·simp only [List.mem_cons] at hy
   rcases hy with rfl | rfl | hy
   ·omega
   ·omega
   ·exact h1 y hy
  ·rcases List.mem_cons.1 hy with rfl | hy
   ·exact h2
   ·exact h1 y hy
theorem bytesB_byt {l:List Int} (h:Byt l):Byt (bytesB l):=byt_app (stuffB_byt h) (fun y hy=>by simp only [List.mem_cons,List.not_mem_nil,or_false] at hy; omega)
theorem insB_app (sec:TIn→List Int):∀ a b:List TIn,insB sec (a++b)=insB sec a++insB sec b
 | [],b=>rfl
 | x::a,b=>by simp [insB,insB_app sec a b]
theorem insB_up {sec:TIn→List Int} {l:List TIn} {i:Nat} {y:TIn} (h:l[i]?=some y):insB sec (l.take (i+1))=insB sec (l.take i)++inB sec y:=by
 rw [List.take_add_one,h,insB_app]
 simp [insB]
theorem toutsB_app:∀ a b:List TOut,toutsB (a++b)=toutsB a++toutsB b
 | [],b=>rfl
 | x::a,b=>by simp [toutsB,toutsB_app a b]
theorem toutsB_up {l:List TOut} {i:Nat} {y:TOut} (h:l[i]?=some y):toutsB (l.take (i+1))=toutsB (l.take i)++toutB y:=by
 rw [List.take_add_one,h,toutsB_app]
 simp [toutsB]
theorem insB_le {sec:TIn→List Int} {m:Nat} (hs:∀ x,(sec x).length≤m):∀ {l:List TIn},(∀ x,x∈l→x.tx.length=32)→(insB sec l).length≤(52+2*m)*l.length
 | [],_=>by simp [insB]
 | x::l,h=>by
  have h1:=insB_le hs (l:=l) (fun y hy=>h y (List.mem_cons_of_mem _ hy))
  have h2:=h x List.mem_cons_self
  have h3:=uintB_le x.n
  have h4:=uintB_le x.branch
  have h5:=stuffB_le (sec x)
  have h6:=hs x
  simp only [insB,inB,bytesB,List.length_append,List.length_cons,List.length_nil]
  have e:(52+2*m)*(l.length+1)=(52+2*m)*l.length+(52+2*m):=by rw [Nat.mul_add,Nat.mul_one]
  omega
theorem toutsB_le:∀ {l:List TOut},(∀ o,o∈l→Locks o.cond)→(toutsB l).length≤18*l.length+59*sumW l
 | [],_=>by simp [toutsB]
 | o::l,h=>by
  have h1:=toutsB_le (l:=l) (fun y hy=>h y (List.mem_cons_of_mem _ hy))
  have h2:=putB_le (h o List.mem_cons_self)
  have h3:=uintB_le o.amount
  simp only [toutsB,toutB,sumW,List.length_append,List.length_cons]
  omega
theorem insB_take_le {sec:TIn→List Int} {m:Nat} (hs:∀ x,(sec x).length≤m) {l:List TIn} (h:∀ x,x∈l→x.tx.length=32) (i:Nat):(insB sec (l.take i)).length≤(52+2*m)*l.length:=by
 have h1:=insB_le hs h
 have h2:=congrArg (fun x=>(insB sec x).length) (List.take_append_drop i l)
 simp only [insB_app,List.length_append] at h2
 omega
theorem toutsB_take_le {l:List TOut} (h:∀ o,o∈l→Locks o.cond) (i:Nat):(toutsB (l.take i)).length≤18*l.length+59*sumW l:=by
 have h1:=toutsB_le h
 have h2:=congrArg (fun x=>(toutsB x).length) (List.take_append_drop i l)
 simp only [toutsB_app,List.length_append] at h2
 omega
theorem weight_sum:∀ {l:List TOut} {o:TOut},o∈l→weight o.cond≤sumW l
 | [],o,h=>by cases h
 | p::l,o,h=>by
  simp only [sumW]
  rcases List.mem_cons.1 h with rfl | h
  ·omega
  ·have:=weight_sum h; omega
theorem insB_byt {sec:TIn→List Int} (hs:∀ x,Byt (sec x)):∀ {l:List TIn},(∀ x,x∈l→Byt x.tx)→Byt (insB sec l)
 | [],_=>byt_nil
 | x::l,h=>byt_app (byt_app (byt_app (byt_app (h x List.mem_cons_self) (uintB_byt _)) (uintB_byt _)) (bytesB_byt (hs x))) (insB_byt hs fun y hy=>h y (List.mem_cons_of_mem _ hy))
theorem toutsB_byt:∀ {l:List TOut},(∀ o,o∈l→∀ b,b∈o.cond→Byt b.lock)→Byt (toutsB l)
 | [],_=>byt_nil
 | o::l,h=>byt_app (byt_app (uintB_byt _) (byt_app (uintB_byt _) (brsB_byt (h o List.mem_cons_self)))) (toutsB_byt fun y hy=>h y (List.mem_cons_of_mem _ hy))
end Go.Proofs.YtcglahfmnoghjaaGreatDoor

/-! A transaction's sum: the walk holds. Conditions: none. -/
namespace Go.Proofs.YtcglahfmnoghjaaGreatDoor
open Go Go.Eng Go.Proofs.Tryz
def tA0 (x:TxD):List Int:=[]++uintB (wr IntKind.u64 x.lock)
def tA1 (x:TxD):List Int:=[]++uintB (wr IntKind.u64 x.lock)++uintB (wr IntKind.u64 (x.ins.length:Int))
def tA2 (x:TxD) (k:Nat):List Int:=tA1 x++insB (secOf (76:Nat)) (List.take k x.ins)
def tA3 (x:TxD) (k:Nat) (y:TIn):List Int:=tA2 x k++y.tx
def tA4 (x:TxD) (k:Nat) (y:TIn):List Int:=tA3 x k y++uintB (wr IntKind.u64 y.n)
def tA5 (x:TxD) (k:Nat) (y:TIn):List Int:=tA4 x k y++uintB (wr IntKind.u64 y.branch)
def tA6 (x:TxD) (k:Nat):List Int:=tA2 x k++uintB (wr IntKind.u64 (x.outs.length:Int))
def tA7 (x:TxD) (k i:Nat):List Int:=tA6 x k++toutsB (List.take i x.outs)
def tA8 (y:TOut):List Int:=[]++uintB (wr IntKind.u64 y.amount)
def tH (x:TxD):Prop:=((x.lock=x.lock∧x.ins=x.ins∧x.outs=x.outs∧True)∧(List.replicate (32:Nat) (0:Int)=List.replicate (32:Nat) (0:Int)∧True)∧(x.lock=x.lock∧x.ins=x.ins∧x.outs=x.outs∧True)∧(True∧True)∧True)
def tH2 (x:TxD) (k:Nat):Prop:=((x.lock=x.lock∧x.ins=x.ins∧x.outs=x.outs∧True)∧(List.replicate (32:Nat) (0:Int)=List.replicate (32:Nat) (0:Int)∧True)∧(x.lock=x.lock∧x.ins=x.ins∧x.outs=x.outs∧True)∧(True∧True)∧tA6 x k=tA6 x k∧True)
theorem tH_ok (x:TxD):tH x:=⟨⟨rfl,rfl,rfl,trivial⟩,⟨rfl,trivial⟩,⟨rfl,rfl,rfl,trivial⟩,⟨trivial,trivial⟩,trivial⟩
theorem tH2_ok (x:TxD) (k:Nat):tH2 x k:=⟨⟨rfl,rfl,rfl,trivial⟩,⟨rfl,trivial⟩,⟨rfl,rfl,rfl,trivial⟩,⟨trivial,trivial⟩,rfl,trivial⟩
def tF (x:TxD) (k:Nat) (y:TIn):Prop:=inI64 ((k:Int)+(1:Int))∧∃ y_1,Nat.le y_1 x.ins.length∧x.ins.length-y_1<x.ins.length-k∧(y_1:Int)=(k:Int)+(1:Int)∧tH x∧tA1 x++insB (secOf (76:Nat)) (List.take y_1 x.ins)=tA5 x k y++bytesB []∧True
def tG (x:TxD) (k:Nat) (y:TIn):Prop:=(y.tx=y.tx∧y.n=y.n∧y.branch=y.branch∧y.secret=y.secret∧True)∧True∧True∧(True∧([]:List Int)=[])∧((True∧True)∧tA5 x k y=tA5 x k y∧True)∧(BB.mk (tA5 x k y) []).Ok∧tF x k y
def tK (x:TxD) (k:Nat) (y:TIn):Prop:=(True∧wr IntKind.u64 y.branch=wr IntKind.u64 y.branch)∧((True∧True)∧tA4 x k y=tA4 x k y∧True)∧(BN.mk (tA4 x k y) (wr IntKind.u64 y.branch)).Low∧tG x k y
def tL (x:TxD) (k:Nat) (y:TIn):Prop:=(True∧wr IntKind.u64 y.n=wr IntKind.u64 y.n)∧((True∧True)∧tA3 x k y=tA3 x k y∧True)∧(BN.mk (tA3 x k y) (wr IntKind.u64 y.n)).Low∧tK x k y
def tM (x:TxD) (k i:Nat) (y:TOut):Prop:=((tA7 x k i).length+(tA8 y).length)*(1:Nat)≤(140737488355328:Nat)∧(tA7 x k i).length+(tA8 y).length≤(1152921504606846976:Nat)∧(tA7 x k i++(tA8 y)=tA7 x k i++(tA8 y)∧y.cond=y.cond∧True)∧True∧(PutX.mk (tA7 x k i++(tA8 y)) y.cond).Ok∧inI64 ((i:Int)+(1:Int))∧∃ y_1,Nat.le y_1 x.outs.length∧x.outs.length-y_1<x.outs.length-i∧((y_1:Int)=(i:Int)+(1:Int)∧True)∧tH2 x k∧tA6 x k++toutsB (List.take y_1 x.outs)=tA7 x k i++(tA8 y)++putB y.cond∧True
def tBody (x:TxD):Prop:=((x.ins.length:Int)≤(9223372036854775807:Int)→(∃ x_1,Nat.le x_1 x.ins.length∧(x_1:Int)=(0:Int)∧tH x∧tA2 x x_1=tA1 x∧True) ∧
 ∀ (x_1:Nat),x_1.le x.ins.length→(decide ((x_1:Int)<(x.ins.length:Int))=true→(0:Int)≤(x_1:Int)∧(x_1:Int)<(↑x.ins.length :
 Int)∧∀ (y:AA (87:Nat)),x.ins[(x_1:Int).toNat]?=some y→((True∧y.tx=y.tx∧True)∧((True∧True)∧tA2 x x_1=tA2 x x_1∧True) ∧
 (BH.mk (tA2 x x_1) y.tx).Ok∧((True∧wr IntKind.u64 y.n=wr IntKind.u64 y.n)∧((True∧True)∧tA3 x x_1 y=tA3 x x_1 y∧True)∧(BN.mk (tA3 x
 x_1 y) (wr IntKind.u64 y.n)).Low∧(tK x x_1 y)∧tK x x_1 y)∧(((True∧wr IntKind.u64 y.n=wr IntKind.u64 y.n)∧((True∧True)∧tA3 x x_1 y=tA3
 x x_1 y∧True)∧(BN.mk (tA3 x x_1 y) (wr IntKind.u64 y.n)).Low∧(tK x x_1 y)∧tK x x_1 y)∧tL x x_1 y)∧(tL x x_1 y)∧tL x x_1 y)∧(((True ∧
 y.tx=y.tx∧True)∧((True∧True)∧tA2 x x_1=tA2 x x_1∧True)∧(BH.mk (tA2 x x_1) y.tx).Ok∧((True∧wr IntKind.u64 y.n=wr IntKind.u64 y.n)
 ∧ ((True∧True)∧tA3 x x_1 y=tA3 x x_1 y∧True)∧(BN.mk (tA3 x x_1 y) (wr IntKind.u64 y.n)).Low∧(tK x x_1 y)∧tK x x_1 y)∧(((True∧wr
 IntKind.u64 y.n=wr IntKind.u64 y.n)∧((True∧True)∧tA3 x x_1 y=tA3 x x_1 y∧True)∧(BN.mk (tA3 x x_1 y) (wr IntKind.u64 y.n)).Low∧(tK x x_1
 y)∧tK x x_1 y)∧tL x x_1 y)∧(tL x x_1 y)∧tL x x_1 y)∧(((True∧y.tx=y.tx∧True)∧((True∧True)∧tA2 x x_1=tA2 x x_1∧True)∧(BH.mk
 (tA2 x x_1) y.tx).Ok∧((True∧wr IntKind.u64 y.n=wr IntKind.u64 y.n)∧((True∧True)∧tA3 x x_1 y=tA3 x x_1 y∧True)∧(BN.mk (tA3 x x_1 y)
 (wr IntKind.u64 y.n)).Low∧(tK x x_1 y)∧tK x x_1 y)∧tL x x_1 y)∧(True∧y.tx=y.tx∧True)∧((True∧True)∧tA2 x x_1=tA2 x x_1∧True) ∧
 (BH.mk (tA2 x x_1) y.tx).Ok∧tL x x_1 y)∧((True∧y.tx=y.tx∧True)∧((True∧True)∧tA2 x x_1=tA2 x x_1∧True)∧(BH.mk (tA2 x x_1) y.tx).Ok
 ∧ (tL x x_1 y)∧tL x x_1 y)∧(True∧y.tx=y.tx∧True)∧((True∧True)∧tA2 x x_1=tA2 x x_1∧True)∧(BH.mk (tA2 x x_1) y.tx).Ok∧tL x x_1 y)
 ∧ (((True∧y.tx=y.tx∧True)∧((True∧True)∧tA2 x x_1=tA2 x x_1∧True)∧(BH.mk (tA2 x x_1) y.tx).Ok∧((True∧wr IntKind.u64 y.n=wr
 IntKind.u64 y.n)∧((True∧True)∧tA3 x x_1 y=tA3 x x_1 y∧True)∧(BN.mk (tA3 x x_1 y) (wr IntKind.u64 y.n)).Low∧(tK x x_1 y)∧tK x x_1 y) ∧
 tL x x_1 y)∧(((True∧y.tx=y.tx∧True)∧((True∧True)∧tA2 x x_1=tA2 x x_1∧True)∧(BH.mk (tA2 x x_1) y.tx).Ok∧((True∧wr IntKind.u64
 y.n=wr IntKind.u64 y.n)∧((True∧True)∧tA3 x x_1 y=tA3 x x_1 y∧True)∧(BN.mk (tA3 x x_1 y) (wr IntKind.u64 y.n)).Low∧(tK x x_1 y)∧tK x
 x_1 y)∧tL x x_1 y)∧(True∧y.tx=y.tx∧True)∧((True∧True)∧tA2 x x_1=tA2 x x_1∧True)∧(BH.mk (tA2 x x_1) y.tx).Ok∧tL x x_1 y) ∧
 ((True∧y.tx=y.tx∧True)∧((True∧True)∧tA2 x x_1=tA2 x x_1∧True)∧(BH.mk (tA2 x x_1) y.tx).Ok∧tL x x_1 y)∧(True∧y.tx=y.tx∧True)
 ∧ ((True∧True)∧tA2 x x_1=tA2 x x_1∧True)∧(BH.mk (tA2 x x_1) y.tx).Ok∧tL x x_1 y)∧((True∧y.tx=y.tx∧True)∧((True∧True)∧tA2 x
 x_1=tA2 x x_1∧True)∧(BH.mk (tA2 x x_1) y.tx).Ok∧(tL x x_1 y)∧tL x x_1 y)∧(((True∧y.tx=y.tx∧True)∧((True∧True)∧tA2 x x_1=tA2 x
 x_1∧True)∧(BH.mk (tA2 x x_1) y.tx).Ok∧(tL x x_1 y)∧tL x x_1 y)∧(True∧y.tx=y.tx∧True)∧((True∧True)∧tA2 x x_1=tA2 x x_1∧True) ∧
 (BH.mk (tA2 x x_1) y.tx).Ok∧tL x x_1 y)∧((True∧y.tx=y.tx∧True)∧((True∧True)∧tA2 x x_1=tA2 x x_1∧True)∧(BH.mk (tA2 x x_1) y.tx).Ok
 ∧ tL x x_1 y)∧(True∧y.tx=y.tx∧True)∧((True∧True)∧tA2 x x_1=tA2 x x_1∧True)∧(BH.mk (tA2 x x_1) y.tx).Ok∧tL x x_1 y)∧(decide
 ((x_1:Int)<(x.ins.length:Int))=false→(x.outs.length:Int)≤(9223372036854775807:Int)→(True∧wr IntKind.u64 (x.outs.length:Int) =
 wr IntKind.u64 (x.outs.length:Int))∧((True∧True)∧tA2 x x_1=tA2 x x_1∧True)∧(BN.mk (tA2 x x_1) (wr IntKind.u64 (↑x.outs.length :
 Int))).Low∧True∧((True∧True)∧tA6 x x_1=tA6 x x_1∧True)∧(tA6 x x_1).length.le (1099511627776:Nat)∧((x.outs.length:Int) ≤
 (9223372036854775807:Int)→(∃ x_2,Nat.le x_2 x.outs.length∧((x_2:Int)=(0:Int)∧True)∧tH2 x x_1∧tA7 x x_1 x_2=tA6 x x_1∧True)∧∀
 (x_2:Nat),x_2.le x.outs.length→(decide ((x_2:Int)<(x.outs.length:Int))=true→(0:Int)≤(x_2:Int)∧(x_2:Int)<(↑x.outs.length
 : Int)∧∀ (y:AA (90:Nat)),x.outs[(x_2:Int).toNat]?=some y→(True∧True∧True∧((True∧wr IntKind.u64 y.amount=wr IntKind.u64
 y.amount)∧((SV.val (A:=AA) (Value.slice none (0:Nat) (0:Nat))=SV.val (A:=AA) (Value.slice none (0:Nat) (0:Nat))∧True)∧([]:List
 Int)=[]∧True)∧(BN.mk [] (wr IntKind.u64 y.amount)).Low∧(True∧((True∧True)∧tA8 y=tA8 y∧True)∧(tA8 y).length.le (1099511627776:Nat)
 ∧ (tM x x_1 x_2 y)∧tM x x_1 x_2 y)∧True∧((True∧True)∧tA8 y=tA8 y∧True)∧(tA8 y).length.le (1099511627776:Nat)∧tM x x_1 x_2 y) ∧
 (True∧wr IntKind.u64 y.amount=wr IntKind.u64 y.amount)∧((SV.val (A:=AA) (Value.slice none (0:Nat) (0:Nat))=SV.val (A:=AA) (Value.slice
 none (0:Nat) (0:Nat))∧True)∧([]:List Int)=[]∧True)∧(BN.mk [] (wr IntKind.u64 y.amount)).Low∧True∧((True∧True)∧tA8 y=tA8 y ∧
 True)∧(tA8 y).length.le (1099511627776:Nat)∧tM x x_1 x_2 y)∧True∧True∧True∧(True∧wr IntKind.u64 y.amount=wr IntKind.u64 y.amount) ∧
 ((SV.val (A:=AA) (Value.slice none (0:Nat) (0:Nat))=SV.val (A:=AA) (Value.slice none (0:Nat) (0:Nat))∧True)∧([]:List Int)=[] ∧
 True)∧(BN.mk [] (wr IntKind.u64 y.amount)).Low∧True∧((True∧True)∧tA8 y=tA8 y∧True)∧(tA8 y).length.le (1099511627776:Nat)∧tM x x_1
 x_2 y)∧(decide ((x_2:Int)<(x.outs.length:Int))=false→tA7 x x_1 x_2=tA7 x x_1 x_2∧True∧Bytes (tA7 x x_1 x_2)∧(idB x=sumB orderL
 (tA7 x x_1 x_2)∧True)∧True∧True))))
def tidVC:Prop:=∀ (x:TxD),TxOk x→(True∧True∧True∧((True∧wr IntKind.u64 x.lock=wr IntKind.u64 x.lock)∧(((SV.val (A:=AA) (Value.slice none (0:Nat)
 (0:Nat)):SV AA)=SV.val (A:=AA) (Value.slice none (0:Nat) (0:Nat))∧True)∧([]:List Int)=[]∧True)∧(BN.mk [] (wr IntKind.u64
 x.lock)).Low∧((x.ins.length:Int)≤(9223372036854775807:Int)→(True∧wr IntKind.u64 (x.ins.length:Int)=wr IntKind.u64 (↑x.ins.length :
 Int))∧((True∧True)∧tA0 x=tA0 x∧True)∧(BN.mk (tA0 x) (wr IntKind.u64 (x.ins.length:Int))).Low∧tBody x))∧((x.ins.length:Int) ≤
 (9223372036854775807:Int)→(True∧wr IntKind.u64 x.lock=wr IntKind.u64 x.lock)∧(((SV.val (A:=AA) (Value.slice none (0:Nat) (0:Nat)):SV
 AA)=SV.val (A:=AA) (Value.slice none (0:Nat) (0:Nat))∧True)∧([]:List Int)=[]∧True)∧(BN.mk [] (wr IntKind.u64 x.lock)).Low∧(True ∧
 wr IntKind.u64 (x.ins.length:Int)=wr IntKind.u64 (x.ins.length:Int))∧((True∧True)∧tA0 x=tA0 x∧True)∧(BN.mk (tA0 x) (wr IntKind.u64
 (x.ins.length:Int))).Low∧tBody x))∧((x.ins.length:Int)≤(9223372036854775807:Int)→True∧True∧True∧(True∧wr IntKind.u64 x.lock =
 wr IntKind.u64 x.lock)∧(((SV.val (A:=AA) (Value.slice none (0:Nat) (0:Nat)):SV AA)=SV.val (A:=AA) (Value.slice none (0:Nat) (0:Nat))
 ∧ True)∧([]:List Int)=[]∧True)∧(BN.mk [] (wr IntKind.u64 x.lock)).Low∧(True∧wr IntKind.u64 (x.ins.length:Int)=wr IntKind.u64
 (x.ins.length:Int))∧((True∧True)∧tA0 x=tA0 x∧True)∧(BN.mk (tA0 x) (wr IntKind.u64 (x.ins.length:Int))).Low∧tBody x)
theorem tid_eq:tidVC=fnS E91 f31 (bodyOf f31) idLS noAnn:=by kernel_rfl
theorem low_of {xs:List Int} {n:Int} (h:xs.length≤1000000000000):(BN.mk xs (wr .u64 n)).Low:=⟨h,u64_wr n⟩
theorem tA1_le (x:TxD):(tA1 x).length≤18:=by
 have h1:=uintB_le x.lock
 have h2:=uintB_le (x.ins.length:Int)
 simp only [tA1,List.nil_append,List.length_append]
 omega
theorem sec0_le:∀ x:TIn,(secOf 76 x).length≤0:=fun _=>Nat.le_refl _
theorem tA2_le {x:TxD} (h:TxOk x) (k:Nat):(tA2 x k).length≤18+52*x.ins.length:=by
 have h1:=tA1_le x
 have h2:=insB_take_le sec0_le (fun y hy=>(h.tx y hy).1) k
 simp only [tA2,List.length_append]
 omega
theorem tA6_le {x:TxD} (h:TxOk x) (k:Nat):(tA6 x k).length≤27+52*x.ins.length:=by
 have h1:=tA2_le h k
 have h2:=uintB_le (x.outs.length:Int)
 simp only [tA6,List.length_append]
 omega
theorem tA7_le {x:TxD} (h:TxOk x) (k i:Nat):(tA7 x k i).length≤27+52*x.ins.length+18*x.outs.length+59*sumW x.outs:=by
 have h1:=tA6_le h k
 have h2:=toutsB_take_le (fun o ho=>(h.locks o ho).1) i
 simp only [tA7,List.length_append]
 omega
theorem tF_ok {x:TxD} (hx:TxOk x) {k:Nat} (hk:k<x.ins.length) {y:TIn} (hy:x.ins[k]?=some y):tF x k y:=by
 have h1:=hx.n
 refine ⟨by unfold inI64; omega,k+1,hk,by omega,by omega,tH_ok x,?_,trivial⟩
 rw [insB_up hy]
 simp only [tA5,tA4,tA3,tA2,inB,List.append_assoc]
 rfl
theorem tG_ok {x:TxD} (hx:TxOk x) {k:Nat} (hk:k<x.ins.length) {y:TIn} (hy:x.ins[k]?=some y):tG x k y:=by
 have h1:=hx.n
 have h2:=tA2_le hx k
 have h3:=(hx.tx y (List.mem_of_getElem? hy)).1
 have h4:=uintB_le y.n
 have h5:=uintB_le y.branch
 refine ⟨⟨rfl,rfl,rfl,rfl,trivial⟩,trivial,trivial,⟨trivial,rfl⟩,⟨⟨trivial,trivial⟩,rfl,trivial⟩,⟨?_,by simp⟩,tF_ok hx hk hy⟩
 simp only [tA5,tA4,tA3,List.length_append]
 omega
theorem tK_ok {x:TxD} (hx:TxOk x) {k:Nat} (hk:k<x.ins.length) {y:TIn} (hy:x.ins[k]?=some y):tK x k y:=by
 have h1:=hx.n
 have h2:=tA2_le hx k
 have h3:=(hx.tx y (List.mem_of_getElem? hy)).1
 have h4:=uintB_le y.n
 refine ⟨⟨trivial,rfl⟩,⟨⟨trivial,trivial⟩,rfl,trivial⟩,low_of ?_,tG_ok hx hk hy⟩
 simp only [tA4,tA3,List.length_append]
 omega
theorem tL_ok {x:TxD} (hx:TxOk x) {k:Nat} (hk:k<x.ins.length) {y:TIn} (hy:x.ins[k]?=some y):tL x k y:=by
 have h1:=hx.n
 have h2:=tA2_le hx k
 have h3:=(hx.tx y (List.mem_of_getElem? hy)).1
 refine ⟨⟨trivial,rfl⟩,⟨⟨trivial,trivial⟩,rfl,trivial⟩,low_of ?_,tK_ok hx hk hy⟩
 simp only [tA3,List.length_append]
 omega
theorem tM_ok {x:TxD} (hx:TxOk x) (k:Nat) {i:Nat} (hi:i<x.outs.length) {y:TOut} (hy:x.outs[i]?=some y):tM x k i y:=by
 have h1:=hx.n
 have h2:=hx.m
 have h3:=hx.w
 have h4:=tA7_le hx k i
 have h5:=uintB_le y.amount
 have h6:=weight_sum (List.mem_of_getElem? hy)
 have h7:(tA8 y).length≤9:=by simp only [tA8,List.nil_append]; exact h5
 refine ⟨by omega,by omega,⟨rfl,rfl,trivial⟩,trivial,⟨?_,show weight y.cond≤2000000 by omega,(hx.locks y (List.mem_of_getElem? hy)).1⟩,by unfold inI64; omega,i+1,hi,by omega,⟨by omega,trivial⟩,tH2_ok x k,?_,trivial⟩
 ·simp only [List.length_append]
  omega
 ·rw [toutsB_up hy]
  simp only [tA7,tA8,toutB,List.nil_append,List.append_assoc]
theorem tA7_all {x:TxD} {k i:Nat} (hk:x.ins.length≤k) (hi:x.outs.length≤i):tA7 x k i=putTx (fun _=>[]) x:=by
 simp only [tA7,tA6,tA2,tA1,putTx,List.take_of_length_le hk,List.take_of_length_le hi,List.nil_append]
 rfl
theorem putTx_byt {x:TxD} (hx:TxOk x):Byt (putTx (fun _=>[]) x):=
 byt_app (byt_app (byt_app (byt_app (uintB_byt _) (uintB_byt _)) (insB_byt (fun _=>byt_nil) fun y hy=>(hx.tx y hy).2)) (uintB_byt _)) (toutsB_byt fun o ho=>(hx.locks o ho).2)
theorem tBody_ok {x:TxD} (hx:TxOk x):tBody x:=by
 have h1:=hx.n
 have h2:=hx.m
 have h3:=hx.w
 unfold tBody
 simp only [true_and,and_true,decide_eq_true_eq,decide_eq_false_iff_not,Int.toNat_natCast,tH_ok,tH2_ok]
 refine fun _=>⟨⟨0,Nat.zero_le _,rfl,by simp [tA2,insB]⟩,fun k hk=>⟨fun h=>?_,fun h _=>?_⟩⟩
 ·have hk':k<x.ins.length:=by omega
  refine ⟨by omega,h,fun y hy=>?_⟩
  have p1:=tL_ok hx hk' (y:=y) hy
  have p2:=tK_ok hx hk' (y:=y) hy
  have p3:=tA2_le hx k
  have p4:y.tx.length=32:=(hx.tx y (List.mem_of_getElem? hy)).1
  have p5:(BH.mk (tA2 x k) y.tx).Ok:=⟨show (tA2 x k).length≤1099511627776 by omega,p4⟩
  have p6:(BN.mk (tA3 x k y) (wr .u64 y.n)).Low:=p1.2.2.1
  simp only [p1,p2,p5,p6,and_self]
 ·have q1:=tA2_le hx k
  have q2:=tA6_le hx k
  refine ⟨low_of (by omega),show (tA6 x k).length≤1099511627776 by omega,fun _=>⟨⟨0,Nat.zero_le _,rfl,by simp [tA7,toutsB]⟩,fun i hi=>⟨fun h4=>?_,fun h4=>?_⟩⟩⟩
  ·have hi':i<x.outs.length:=by omega
   refine ⟨by omega,h4,fun y hy=>?_⟩
   have p1:=tM_ok hx k hi' (y:=y) hy
   have p2:(BN.mk [] (wr .u64 y.amount)).Low:=low_of (by simp)
   have p3:(tA8 y).length.le 1099511627776:=by
    have:=uintB_le y.amount
    show (tA8 y).length≤1099511627776
    simp only [tA8,List.nil_append]
    omega
   simp only [p1,p2,p3,and_self]
  ·rw [tA7_all (by omega) (by omega)]
   have hl:=tA7_le hx x.ins.length x.outs.length
   rw [tA7_all (Nat.le_refl _) (Nat.le_refl _)] at hl
   exact ⟨⟨putTx_byt hx,by omega⟩,rfl⟩
theorem tid_vc:tidVC:=by
 intro x hx
 have h1:=tBody_ok hx
 have h2:(BN.mk [] (wr .u64 x.lock)).Low:=low_of (by simp)
 have h3:(BN.mk (tA0 x) (wr .u64 (x.ins.length:Int))).Low:=low_of (by
  have:=uintB_le x.lock
  simp only [tA0,List.nil_append]
  omega)
 simp only [h1,h2,h3,and_self,implies_true]
theorem tid_ok:Fits E91 f31 (bodyOf f31) idLS noAnn:=by
 constructor
 rw [← tid_eq]
 exact tid_vc
theorem f37_has:Has prog 31 f31 (bodyOf f31):=⟨by kernel_rfl,by kernel_rfl,by kernel_rfl⟩
theorem known92:Known prog L92:=by
 unfold L92
 exact known91.lent mixed f37_has E91_eq tid_ok (fun _ _=>Nat.le_refl _) (fun _ _=>rfl)
end Go.Proofs.YtcglahfmnoghjaaGreatDoor

/-! At, sure, the document's total, the totals' law: the walks hold. Conditions: none. -/
namespace Go.Proofs.YtcglahfmnoghjaaGreatDoor
open Go Go.Eng Go.Proofs.Tryz
def tatVC:Prop:=∀ (x:AtX),TxOk x.t→(x.t.lock=x.t.lock∧x.t.ins=x.t.ins∧x.t.outs=x.t.outs∧True)∧True∧TxOk (TxD.mk x.t.lock x.t.ins x.t.outs)∧(idB
 x.t=idB (TxD.mk x.t.lock x.t.ins x.t.outs)∧x.n=x.n∧True)∧True∧True
theorem tat_eq:tatVC=fnS E92 f17 (bodyOf f17) atLS noAnn:=by kernel_rfl
theorem tat_ok:Fits E92 f17 (bodyOf f17) atLS noAnn:=by
 constructor
 rw [← tat_eq]
 exact fun x hx=>⟨⟨rfl,rfl,rfl,trivial⟩,trivial,hx,⟨rfl,rfl,trivial⟩,trivial,trivial⟩
theorem f63_has:Has prog 17 f17 (bodyOf f17):=⟨by kernel_rfl,by kernel_rfl,by kernel_rfl⟩
theorem known93:Known prog L93:=by
 unfold L93
 exact known92.lent mixed f63_has E92_eq tat_ok (fun _ _=>Nat.le_refl _) (fun _ _=>rfl)
theorem zero_tx:(List.replicate 32 (0:Int)).length=32∧Byt (List.replicate 32 (0:Int)):=by
 refine ⟨by simp,fun y hy=>?_⟩
 rw [List.eq_of_mem_replicate hy]
 omega
theorem allOf_1:allOf [1]=[⟨[1],List.replicate 32 0,0,0⟩]:=by
 unfold allOf
 have h:Lib.compact (sortI [1])=[1]:=by
  have:sortI [1]=[1]:=by simp [sortI]
  rw [this]
  decide
 rw [h]
theorem sure_tx (s:List Int):TxOk (TxD.mk 0 [TIn.mk (List.replicate 32 0) 0 0 s] [TOut.mk 5 (allOf [1])]) where
 n:=by simp
 m:=by simp
 w:=by
  rw [allOf_1]
  simp [sumW,weight,sumK]
 tx:=fun x hx=>by
  simp only [List.mem_singleton] at hx
  rw [hx]
  exact zero_tx
 locks:=fun o ho=>by
  simp only [List.mem_singleton] at ho
  rw [ho,allOf_1]
  refine ⟨fun b hb=>?_,fun b hb=>?_⟩
  ·simp only [List.mem_singleton] at hb
   rw [hb]
   simp
  ·simp only [List.mem_singleton] at hb
   rw [hb]
   exact zero_tx.2
theorem sure_check:checkT (TxD.mk 0 [TIn.mk (List.replicate 32 0) 0 0 []] [TOut.mk 5 (allOf [1])])=27:=by
 unfold checkT
 rw [if_neg (by simp [someB,badIn,inOk]),if_neg (by simp)]
 simp [outsE,outE]
def sure5VC:Prop:=∀ (_:Unit),True→(List.replicate (32:Nat) (0:Int)=List.replicate (32:Nat) (0:Int)∧(0:Int)=(0:Int)∧(0:Int)=(0:Int)∧([] :
 List Int)=[]∧True)∧[(1:Int)]=[(1:Int)]∧True∧[(1:Int)].length.le (1000000:Nat)∧((5:Int)=(5:Int) ∧
 Proofs.YtcglahfmnoghjaaGreatDoor.allOf [(1:Int)]=Proofs.YtcglahfmnoghjaaGreatDoor.allOf [(1:Int)]∧True)∧[(115:Int)]≠[]∧(List.replicate (32:Nat)
 (0:Int)=List.replicate (32:Nat) (0:Int)∧(0:Int)=(0:Int)∧(0:Int)=(0:Int)∧[(115:Int)]=[(115:Int)]∧True)∧[(1:Int)] =
 [(1:Int)]∧True∧[(1:Int)].length.le (1000000:Nat)∧((5:Int)=(5:Int)∧Proofs.YtcglahfmnoghjaaGreatDoor.allOf [(1:Int)] =
 Proofs.YtcglahfmnoghjaaGreatDoor.allOf [(1:Int)]∧True)∧((0:Int)=(0:Int)∧[TIn.mk (List.replicate (32:Nat) (0:Int)) (0:Int) (0:Int) []]
 = [TIn.mk (List.replicate (32:Nat) (0:Int)) (0:Int) (0:Int) []]∧[TOut.mk (5:Int) (Proofs.YtcglahfmnoghjaaGreatDoor.allOf [(1:Int)])] =
 [TOut.mk (5:Int) (Proofs.YtcglahfmnoghjaaGreatDoor.allOf [(1:Int)])]∧True)∧True∧True∧((checkT (TxD.mk (0:Int) [TIn.mk (List.replicate (32 :
 Nat) (0:Int)) (0:Int) (0:Int) []] [TOut.mk (5:Int) (Proofs.YtcglahfmnoghjaaGreatDoor.allOf [(1:Int)])])==(27:Int))=true→((0:Int)=(0 :
 Int)∧[TIn.mk (List.replicate (32:Nat) (0:Int)) (0:Int) (0:Int) []]=[TIn.mk (List.replicate (32:Nat) (0:Int)) (0:Int) (0:Int) []] ∧
 [TOut.mk (5:Int) (Proofs.YtcglahfmnoghjaaGreatDoor.allOf [(1:Int)])]=[TOut.mk (5:Int) (Proofs.YtcglahfmnoghjaaGreatDoor.allOf [(1:Int)])]∧True) ∧
 True∧TxOk (TxD.mk (0:Int) [TIn.mk (List.replicate (32:Nat) (0:Int)) (0:Int) (0:Int) []] [TOut.mk (5:Int)
 (Proofs.YtcglahfmnoghjaaGreatDoor.allOf [(1:Int)])])∧((0:Int)=(0:Int)∧[TIn.mk (List.replicate (32:Nat) (0:Int)) (0:Int) (0:Int) [(115 :
 Int)]]=[TIn.mk (List.replicate (32:Nat) (0:Int)) (0:Int) (0:Int) [(115:Int)]]∧[TOut.mk (5:Int) (Proofs.YtcglahfmnoghjaaGreatDoor.allOf [(1 :
 Int)])]=[TOut.mk (5:Int) (Proofs.YtcglahfmnoghjaaGreatDoor.allOf [(1:Int)])]∧True)∧True∧TxOk (TxD.mk (0:Int) [TIn.mk (List.replicate (32 :
 Nat) (0:Int)) (0:Int) (0:Int) [(115:Int)]] [TOut.mk (5:Int) (Proofs.YtcglahfmnoghjaaGreatDoor.allOf [(1:Int)])])∧((idB (TxD.mk (0:Int)
 [TIn.mk (List.replicate (32:Nat) (0:Int)) (0:Int) (0:Int) []] [TOut.mk (5:Int) (Proofs.YtcglahfmnoghjaaGreatDoor.allOf [(1:Int)])])==idB
 (TxD.mk (0:Int) [TIn.mk (List.replicate (32:Nat) (0:Int)) (0:Int) (0:Int) [(115:Int)]] [TOut.mk (5:Int)
 (Proofs.YtcglahfmnoghjaaGreatDoor.allOf [(1:Int)])]))=true→(((0:Int)=(0:Int)∧[TIn.mk (List.replicate (32:Nat) (0:Int)) (0:Int) (0:Int)
 []]=[TIn.mk (List.replicate (32:Nat) (0:Int)) (0:Int) (0:Int) []]∧[TOut.mk (5:Int) (Proofs.YtcglahfmnoghjaaGreatDoor.allOf [(1:Int)])] =
 [TOut.mk (5:Int) (Proofs.YtcglahfmnoghjaaGreatDoor.allOf [(1:Int)])]∧True)∧(3:Int)=(3:Int))∧True∧TxOk (TxD.mk (0:Int) [TIn.mk
 (List.replicate (32:Nat) (0:Int)) (0:Int) (0:Int) []] [TOut.mk (5:Int) (Proofs.YtcglahfmnoghjaaGreatDoor.allOf [(1:Int)])])∧true=((3:Int)
 == (3:Int))∧True∧True)∧((idB (TxD.mk (0:Int) [TIn.mk (List.replicate (32:Nat) (0:Int)) (0:Int) (0:Int) []] [TOut.mk (5:Int)
 (Proofs.YtcglahfmnoghjaaGreatDoor.allOf [(1:Int)])])==idB (TxD.mk (0:Int) [TIn.mk (List.replicate (32:Nat) (0:Int)) (0:Int) (0:Int) [(115 :
 Int)]] [TOut.mk (5:Int) (Proofs.YtcglahfmnoghjaaGreatDoor.allOf [(1:Int)])]))=false→true=false∧True∧True))∧((checkT (TxD.mk (0:Int)
 [TIn.mk (List.replicate (32:Nat) (0:Int)) (0:Int) (0:Int) []] [TOut.mk (5:Int) (Proofs.YtcglahfmnoghjaaGreatDoor.allOf [(1:Int)])])==(27 :
 Int))=false→true=false∧True∧True)
theorem sure5_eq:sure5VC=fnS E93 f9 (bodyOf f9) sureLS noAnn:=by kernel_rfl
theorem sure5_vc:sure5VC:=by
 intro _ _
 have h1:=sure_tx []
 have h2:=sure_tx [115]
 have h3:idB (TxD.mk 0 [TIn.mk (List.replicate 32 0) 0 0 [115]] [TOut.mk 5 (allOf [1])])=idB (TxD.mk 0 [TIn.mk (List.replicate 32 0) 0 0 []] [TOut.mk 5 (allOf [1])]):=rfl
 have h4:[(1:Int)].length.le 1000000:=show 1≤1000000 by decide
 simp only [sure_check,h1,h2,h3,h4,beq_self_eq_true,true_and,and_true,Bool.true_eq_false,false_implies,implies_true,forall_const,ne_eq,List.cons_ne_nil,not_false_eq_true]
theorem sure5_ok:Fits E93 f9 (bodyOf f9) sureLS noAnn:=by
 constructor
 rw [← sure5_eq]
 exact sure5_vc
theorem f30_has:Has prog 9 f9 (bodyOf f9):=⟨by kernel_rfl,by kernel_rfl,by kernel_rfl⟩
theorem known94:Known prog L94:=by
 unfold L94
 exact known93.lent mixed f30_has E93_eq sure5_ok (fun _ _=>Nat.le_refl _) (fun _ _=>rfl)
def rTotalVC:Prop:=∀ (x:TxD),True→(∃ (x_1:Nat×Int),(x_1.fst≤x.outs.length∧(0:Int)≤x_1.snd∧x_1.snd≤(1125899906842624:Int)∧totG x.outs (0:Int) =
 totG (List.drop x_1.fst x.outs) x_1.snd)∧((x_1.fst:Int)=(0:Int)∧x_1.snd=(0:Int))∧((x.lock=x.lock∧x.ins=x.ins∧x.outs=x.outs ∧
 True)∧True)∧True)∧∀ (x_1:Nat×Int),x_1.fst≤x.outs.length∧(0:Int)≤x_1.snd∧x_1.snd≤(1125899906842624:Int)∧totG x.outs (0:Int)
 = totG (List.drop x_1.fst x.outs) x_1.snd→(x.outs.length:Int)≤(9223372036854775807:Int)→(decide ((x_1.fst:Int)<(x.outs.length:Int))
 = true→(0:Int)≤(x_1.fst:Int)∧(x_1.fst:Int)<(x.outs.length:Int)∧∀ (y:AA (82:Nat)),x.outs[(x_1.fst:Int).toNat]?=some y →
 (decide (y.amount<(0:Int))=true→((totG x.outs (0:Int)).fst=(0:Int)∧(totG x.outs (0:Int)).snd=(5:Int))∧True∧True)∧(decide
 (y.amount<(0:Int))=false→(decide (y.amount>(1125899906842624:Int))=true→((totG x.outs (0:Int)).fst=(0:Int)∧(totG x.outs (0 :
 Int)).snd=(5:Int))∧True∧True)∧(decide (y.amount>(1125899906842624:Int))=false→inI64 (x_1.snd+y.amount)∧(decide (x_1.snd +
 y.amount>(1125899906842624:Int))=true→((totG x.outs (0:Int)).fst=(0:Int)∧(totG x.outs (0:Int)).snd=(5:Int))∧True∧True) ∧
 (decide (x_1.snd+y.amount>(1125899906842624:Int))=false→inI64 (x_1.snd+y.amount)∧inI64 ((x_1.fst:Int)+(1:Int))∧∃ (y_1:Nat ×
 Int),(y_1.fst≤x.outs.length∧(0:Int)≤y_1.snd∧y_1.snd≤(1125899906842624:Int)∧totG x.outs (0:Int)=totG (List.drop y_1.fst x.outs)
 y_1.snd)∧x.outs.length-y_1.fst<x.outs.length-x_1.fst∧((y_1.fst:Int)=(x_1.fst:Int)+(1:Int)∧y_1.snd=x_1.snd+y.amount) ∧
 ((x.lock=x.lock∧x.ins=x.ins∧x.outs=x.outs∧True)∧True)∧True))))∧(decide ((x_1.fst:Int)<(x.outs.length:Int))=false→((totG
 x.outs (0:Int)).fst=x_1.snd∧(totG x.outs (0:Int)).snd=(0:Int))∧True∧True)
theorem rTotal_eq:rTotalVC=fnS E94 f115 (bodyOf f115) rTotalLS rTotalAnn:=by kernel_rfl
theorem rTotal_vc:rTotalVC:=by
 rintro ⟨lock,ins,outs⟩ _
 simp only [true_and,and_true,decide_eq_true_eq,decide_eq_false_iff_not,Int.toNat_natCast]
 refine ⟨⟨(0,0),⟨Nat.zero_le _,by simp,by simp,rfl⟩,rfl,rfl⟩,?_⟩
 rintro ⟨i,n⟩ ⟨h1,h3,h4,h5⟩ hl
 simp only at h1 h3 h4 h5 ⊢
 refine ⟨fun h=>?_,fun h=>?_⟩
 ·refine ⟨by omega,h,fun y hy=>?_⟩
  have hd:=dropAt (α:=TOut) (y:=y) hy
  have five:(y.amount<0∨y.amount>1125899906842624-n)→totG outs 0=(0,5):=fun hc=>by
   rw [h5,hd]
   simp only [totG]
   rw [if_pos hc]
  refine ⟨fun hc=>?_,fun hc=>⟨fun hc2=>?_,fun hc2=>⟨by unfold inI64; omega,fun hc3=>?_,fun hc3=>⟨by unfold inI64; omega,by unfold inI64; omega,(i+1,n+y.amount),⟨?_,?_,?_,?_⟩,?_,?_,?_⟩⟩⟩⟩
  ·rw [five (.inl hc)]; exact ⟨rfl,rfl⟩
  ·rw [five (.inr (by omega))]; exact ⟨rfl,rfl⟩
  ·rw [five (.inr (by omega))]; exact ⟨rfl,rfl⟩
  ·simp only; omega
  ·simp only; omega
  ·simp only; omega
  ·rw [h5,hd]
   simp only [totG]
   rw [if_neg (by omega)]
  ·simp only; omega
  ·simp only; omega
  ·rfl
 ·rw [h5,List.drop_of_length_le (by omega)]
  exact ⟨rfl,rfl⟩
theorem rTotal_ok:Fits E94 f115 (bodyOf f115) rTotalLS rTotalAnn:=by
 constructor
 rw [← rTotal_eq]
 exact rTotal_vc
theorem f33_has:Has prog 115 f115 (bodyOf f115):=⟨by kernel_rfl,by kernel_rfl,by kernel_rfl⟩
theorem known95:Known prog L95:=by
 unfold L95
 exact known94.lent mixed f33_has E94_eq rTotal_ok (fun _ _=>Nat.le_refl _) (fun _ _=>rfl)
end Go.Proofs.YtcglahfmnoghjaaGreatDoor

/-! A transaction given and checked: what is said of it. Conditions: none. -/
namespace Go.Proofs.YtcglahfmnoghjaaGreatDoor
open Go Go.Eng Go.Proofs.Tryz
def rcondGet (args:List (SV AA)) (sh:List (SO AA)):Option (List Br):=match args with
 | [.agg (.cell s .nil)]=>seqOfS 85 sh s
 | _=>none
def gcondLS:LS AA where
 X:=List Br
 pre:=fun bs=>weight bs≤2000000
 args:=fun bs=>[.agg (.cell (.rseq 85 (show List (AA 85) from bs)) .nil)]
 hin:=fun _=>[]
 res:=fun bs=>[.agg (.cell (.rseq 102 (show List (AA 102) from bs)) .nil)]
 hout:=fun _=>[]
noncomputable def L96:List (Nat×SpecT AA):=(37,tLent gcondLS rcondGet)::L95
noncomputable def F96:Eng AA:=EF prog L96
theorem F96_eq:F96=EF prog L96:=by
 unfold F96
 rfl
noncomputable def F95:Eng AA:=EF prog L95
theorem F95_eq:F95=EF prog L95:=by
 unfold F95
 rfl
def secN:List TIn→Int
 | []=>0
 | x::l=>(x.secret.length:Int).tdiv 16+secN l
def keyCut:List Br→Int→Int
 | [],n=>n
 | b::l,n=>if n<400 then keyCut l (n+b.keys.length) else n
def outCut:List TOut→Int→Int
 | [],n=>n
 | o::l,n=>outCut l (keyCut o.cond (n+o.cond.length))
def longB (t:TxD):Bool:=if (t.ins.length:Int)+t.outs.length>300 then true else decide (outCut t.outs ((t.ins.length:Int)+t.outs.length+secN t.ins)>400)
def sumS:List TIn→Nat
 | []=>0
 | x::l=>x.secret.length+sumS l
structure Small (t:TxD):Prop where
 n:t.ins.length≤2000000
 m:t.outs.length≤2000000
 s:∀ x,x∈t.ins→x.secret.length≤2000000
 w:sumW t.outs≤2000000
def longTxLS:LS AA where
 X:=TxD
 pre:=Small
 args:=fun t=>[.agg (txRSL t)]
 hin:=fun _=>[]
 res:=fun t=>[.sb 0 (longB t)]
 hout:=fun _=>[]
structure LongI (t:TxD) (i:Nat) (n:Int):Prop where
 le:i≤t.ins.length
 few:(t.ins.length:Int)+t.outs.length≤300
 lo:0≤n
 hi:n≤300+2000000*(i:Int)
 eq:(t.ins.length:Int)+t.outs.length+secN t.ins=n+secN (t.ins.drop i)
structure LongJ (t:TxD) (j:Nat) (n:Int):Prop where
 le:j≤t.outs.length
 few:(t.ins.length:Int)+t.outs.length≤300
 lo:0≤n
 hi:n≤1000000000+10000000*(j:Int)
 eq:outCut t.outs ((t.ins.length:Int)+t.outs.length+secN t.ins)=outCut (t.outs.drop j) n
structure LongK (o:TOut) (m:Int) (i:Nat) (n:Int):Prop where
 le:i≤o.cond.length
 lo:0≤n
 hi:n≤400+2000000∨n≤m
 eq:keyCut o.cond m=keyCut (o.cond.drop i) n
def longTxAnn (t:TxD):Anns AA:=fun k ts _=>if k=6 then some {
  X:=Nat×Int
  inv:=fun x=>LongI t x.1 x.2
  meas:=fun x=>t.ins.length-x.1
  slots:=fun x=>[(4,.int .i64 x.1),(3,.int .i64 x.2)]
  heap:=fun _=>[] }
 else if k=10 then some {
  X:=Nat×Int
  inv:=fun x=>LongJ t x.1 x.2
  meas:=fun x=>t.outs.length-x.1
  slots:=fun x=>[(5,.int .i64 x.1),(3,.int .i64 x.2)]
  heap:=fun _=>[] }
 else (match nth ts 3,nth ts 5 with
  | some (.int _ m),some (.int _ j)=>some {
   X:=Nat×Int
   inv:=fun x=>∀ o:TOut,t.outs[j.toNat]?=some o→LongK o m x.1 x.2
   meas:=fun x=>2000001-x.1
   slots:=fun x=>[(6,.int .i64 x.1),(3,.int .i64 x.2)]
   heap:=fun _=>[] }
  | _,_=>none)
noncomputable def L97:List (Nat×SpecT AA):=(8,tLent longTxLS txRGet)::L96
noncomputable def F97:Eng AA:=EF prog L97
theorem F97_eq:F97=EF prog L97:=by
 unfold F97
 rfl
def giveTxLS:LS AA where
 X:=TxD
 pre:=Small
 args:=fun t=>[.agg (txRSL t)]
 hin:=fun _=>[]
 res:=fun t=>[.agg (.cell (.int .i64 t.lock) (.cell (.vec 0) (.cell (.vec 1) .nil)))]
 hout:=fun t=>[.svec 87 (show List (AA 87) from t.ins),.svec 90 (show List (AA 90) from t.outs)]
def giveTxAnn (t:TxD):Anns AA:=fun k _ sh=>if k=4 then some {
  X:=Nat
  inv:=fun i=>i≤t.ins.length
  meas:=fun i=>t.ins.length-i
  slots:=fun i=>[(4,.int .i64 i)]
  heap:=fun _=>[(2,.cells 36 (.cell (.int .i64 t.lock) (.cell (.vec (cnt sh)) (.cell (.val (.slice none 0 0)) .nil))))]
  more:=fun i=>[.svec 87 (show List (AA 87) from t.ins.take i)] }
 else (match nth sh 2 with
  | some (.cells _ (.cell _ (.cell v _)))=>some {
   X:=Nat
   inv:=fun i=>i≤t.outs.length
   meas:=fun i=>t.outs.length-i
   slots:=fun i=>[(6,.int .i64 i)]
   heap:=fun _=>[(2,.cells 36 (.cell (.int .i64 t.lock) (.cell v (.cell (.vec (cnt sh)) .nil))))]
   more:=fun i=>[.svec 90 (show List (AA 90) from t.outs.take i)] }
  | _=>none)
noncomputable def L98:List (Nat×SpecT AA):=(10,tLent giveTxLS txRGet)::L97
noncomputable def F98:Eng AA:=EF prog L98
theorem F98_eq:F98=EF prog L98:=by
 unfold F98
 rfl
structure Lens (t:TxD):Prop where
 n:t.ins.length≤2000000
 m:t.outs.length≤2000000
 c:∀ o,o∈t.outs→o.cond.length≤2000000
noncomputable def rcheckLS:LS AA where
 X:=TxD
 pre:=Lens
 args:=fun t=>[.agg (txRSL t)]
 hin:=fun _=>[]
 res:=fun t=>[.int .i64 (checkT t)]
 hout:=fun _=>[]
noncomputable def rcheckAnn (t:TxD):Anns AA:=fun k ts _=>if k=5 then some {
  X:=Nat
  inv:=fun i=>i≤t.ins.length∧badIn t.ins 0=badIn (t.ins.drop i) i
  meas:=fun i=>t.ins.length-i
  slots:=fun i=>[(3,.int .i64 i)]
  heap:=fun _=>[] }
 else if k=11 then some {
  X:=Nat
  inv:=fun i=>i≤t.ins.length∧((t.ins.take i).map ptOf).Nodup
  meas:=fun i=>t.ins.length-i
  slots:=fun i=>[(5,.int .i64 i)]
  heap:=fun _=>[] }
 else if k=14 then (match nth ts 5 with
  | some (.int _ i)=>some {
   X:=Nat
   inv:=fun j=>(j:Int)≤i∧∀ x:TIn,t.ins[i.toNat]?=some x→ptOf x∉(t.ins.take j).map ptOf
   meas:=fun j=>i.toNat-j
   slots:=fun j=>[(6,.int .i64 j)]
   heap:=fun _=>[] }
  | _=>none)
 else some {
  X:=Nat
  inv:=fun n=>n≤t.outs.length∧outsE t.outs=outsE (t.outs.drop n)
  meas:=fun n=>t.outs.length-n
  slots:=fun n=>[(7,.int .i64 n)]
  heap:=fun _=>[] }
noncomputable def L99:List (Nat×SpecT AA):=(73,tLent rcheckLS txRGet)::L98
noncomputable def F99:Eng AA:=EF prog L99
theorem F99_eq:F99=EF prog L99:=by
 unfold F99
 rfl
end Go.Proofs.YtcglahfmnoghjaaGreatDoor

/-! A transaction given and checked: the walks hold. Conditions: none. -/
namespace Go.Proofs.YtcglahfmnoghjaaGreatDoor
open Go Go.Eng Go.Proofs.Tryz
def gcondVC:Prop:=∀ (x:List Br),(weight x).le (2000000:Nat)→(∃ x_1,Nat.le x_1 x.length∧((SV.val (A:=AA) (Value.slice none (0:Nat) (0:Nat)):SV AA) =
 SV.val (A:=AA) (Value.slice none (0:Nat) (0:Nat))∧(x_1:Int)=(0:Int))∧((x=x∧True)∧((SV.val (A:=AA) (Value.slice none (0:Nat)
 (0:Nat)):SV AA)=SV.val (A:=AA) (Value.slice none (0:Nat) (0:Nat))∧True)∧True)∧List.take x_1 x=[]∧True)∧∀ (x_1:Nat),x_1.le
 x.length→(x.length:Int)≤(9223372036854775807:Int)→(decide ((x_1:Int)<(x.length:Int))=true→(0:Int)≤(x_1:Int)∧(↑x_1 :
 Int)<(x.length:Int)∧∀ (y:AA (85:Nat)),x[(x_1:Int).toNat]?=some y→(0:Int)≤(x_1:Int)∧(x_1:Int)<(x.length:Int)∧∀
 (y_1:AA (85:Nat)),x[(x_1:Int).toNat]?=some y_1→y_1.keys.length*(8:Nat)≤(140737488355328:Nat)∧y_1.keys.length ≤
 (1152921504606846976:Nat)∧(y_1.keys=y_1.keys∧y.lock=y.lock∧y.after=y.after∧y.older=y.older∧True)∧((List.take x_1 x).length +
 [Br.mk y_1.keys y.lock y.after y.older].length)*(72:Nat)≤(140737488355328:Nat)∧(List.take x_1 x).length+[Br.mk y_1.keys y.lock y.after
 y.older].length≤(1152921504606846976:Nat)∧inI64 ((x_1:Int)+(1:Int))∧∃ y_2,Nat.le y_2 x.length∧x.length-y_2<x.length-x_1∧(True
 ∧ (y_2:Int)=(x_1:Int)+(1:Int))∧((x=x∧True)∧((SV.val (A:=AA) (Value.slice none (0:Nat) (0:Nat)):SV AA)=SV.val (A:=AA)
 (Value.slice none (0:Nat) (0:Nat))∧True)∧True)∧List.take y_2 x=List.take x_1 x++[Br.mk y_1.keys y.lock y.after y.older]∧True)∧(decide
 ((x_1:Int)<(x.length:Int))=false→(x=List.take x_1 x∧True)∧True∧True)
theorem gcond_eq:gcondVC=fnS F95 f37 (bodyOf f37) gcondLS giveAnn:=by kernel_rfl
theorem gcond_vc:gcondVC:=by
 intro bs hw
 have hw:bs.length+sumK bs≤2000000:=hw
 refine ⟨⟨0,Nat.zero_le _,⟨rfl,rfl⟩,⟨⟨rfl,trivial⟩,⟨rfl,trivial⟩,trivial⟩,rfl,trivial⟩,?_⟩
 intro k hk hl
 have hk:k≤bs.length:=hk
 refine ⟨fun h1=>?_,fun h1=>?_⟩
 ·simp only [decide_eq_true_eq] at h1
  refine ⟨by omega,by omega,fun y hy=>⟨by omega,by omega,fun y' hy'=>?_⟩⟩
  have hyy:y=y':=by rw [hy] at hy'; exact Option.some.inj hy'
  subst hyy
  change Br at y
  have hy2:bs[k]?=some y:=by
   have h0:=hy
   rw [Int.toNat_natCast] at h0
   exact h0
  have hkl:=len_weight hy2
  have htl:(bs.take k).length=k:=by rw [List.length_take]; omega
  have hlen:∀ z:Br,((bs.take k).length+[z].length)=k+1:=fun z=>by rw [htl]; rfl
  have h8:y.keys.length≤2000000:=by omega
  have hk300:k<2000000:=by omega
  have hcat:bs.take (k+1)=bs.take k++[show Br from y]:=by
   rw [List.take_add_one,hy2]; rfl
  refine ⟨by omega,by omega,⟨rfl,rfl,rfl,rfl,trivial⟩,?_,?_,by unfold inI64; omega,k+1,Nat.succ_le_of_lt (by omega),by omega,⟨trivial,by omega⟩,⟨⟨rfl,trivial⟩,⟨rfl,trivial⟩,trivial⟩,hcat,trivial⟩
  ·exact Nat.le_trans (Nat.mul_le_mul_right 72 (Nat.le_of_eq (hlen _))) (by omega)
  ·exact Nat.le_trans (Nat.le_of_eq (hlen _)) (by omega)
 ·simp only [decide_eq_false_iff_not] at h1
  exact ⟨⟨(List.take_of_length_le (by omega)).symm,trivial⟩,trivial,trivial⟩
theorem gcond_ok:Fits F95 f37 (bodyOf f37) gcondLS giveAnn:=by
 constructor
 rw [← gcond_eq]
 exact gcond_vc
theorem f64_has:Has prog 37 f37 (bodyOf f37):=⟨by kernel_rfl,by kernel_rfl,by kernel_rfl⟩
theorem known96:Known prog L96:=by
 unfold L96
 exact known95.lent mixed f64_has F95_eq gcond_ok (fun _ _=>Nat.le_refl _) (fun _ _=>rfl)
theorem weight_le:∀ {l:List TOut} {o:TOut},o∈l→weight o.cond≤sumW l
 | x::l,o,h=>by
  simp only [sumW]
  rcases List.mem_cons.1 h with e | h
  ·subst e; omega
  ·have:=weight_le h; omega
theorem keys_le {bs:List Br} {b:Br} (h:b∈bs):b.keys.length≤sumK bs:=by
 obtain ⟨k,hk⟩:=List.getElem?_of_mem h
 exact len_weight hk
theorem Small.cond {t:TxD} (h:Small t) {o:TOut} {j:Nat} (ho:t.outs[j]?=some o):o.cond.length+sumK o.cond≤2000000:=by
 have:=weight_le (List.mem_of_getElem? ho)
 have:=h.w
 unfold weight at *
 omega
theorem tdiv16 {n:Nat} (h:n≤2000000):wr IntKind.i64 ((n:Int).tdiv 16)=(n:Int).tdiv 16∧0≤(n:Int).tdiv 16∧(n:Int).tdiv 16≤2000000:=by
 have h1:(n:Int).tdiv 16=(n:Int) / 16:=Int.tdiv_eq_ediv_of_nonneg (by omega)
 rw [h1]
 refine ⟨wr64 (by unfold inI64; omega),by omega,by omega⟩
def longTxVC:Prop:=∀ (x:TxD),Small x→(x.ins.length:Int)≤(9223372036854775807:Int)→(x.outs.length:Int)≤(9223372036854775807:Int)→inI64
 ((x.ins.length:Int)+(x.outs.length:Int))∧(decide ((x.ins.length:Int)+(x.outs.length:Int)>(300:Int))=true→longB x=true ∧
 True∧True)∧(decide ((x.ins.length:Int)+(x.outs.length:Int)>(300:Int))=false→(∃ (x_1:Nat×Int),LongI x x_1.fst x_1.snd∧((x_1.fst:Int) =
 (0:Int)∧x_1.snd=(x.ins.length:Int)+(x.outs.length:Int))∧((x.lock=x.lock∧x.ins=x.ins∧x.outs=x.outs∧True)∧True)∧True)∧∀
 (x_1:Nat×Int),LongI x x_1.fst x_1.snd→(x.ins.length:Int)≤(9223372036854775807:Int)→(decide ((x_1.fst:Int)<(x.ins.length:Int)) =
 true→(0:Int)≤(x_1.fst:Int)∧(x_1.fst:Int)<(x.ins.length:Int)∧∀ (y:AA (80:Nat)),x.ins[(x_1.fst:Int).toNat]?=some y →
 (y.secret.length:Int)≤(9223372036854775807:Int)→(16:Int)≠(0:Int)∧inI64 (x_1.snd+wr IntKind.i64 ((y.secret.length:Int).tdiv (16 :
 Int)))∧inI64 ((x_1.fst:Int)+(1:Int))∧∃ (y_1:Nat×Int),LongI x y_1.fst y_1.snd∧x.ins.length-y_1.fst<x.ins.length-x_1.fst∧((y_1.fst:Int) =
 (x_1.fst:Int)+(1:Int)∧y_1.snd=x_1.snd+wr IntKind.i64 ((y.secret.length:Int).tdiv (16:Int)))∧((x.lock=x.lock∧x.ins=x.ins ∧
 x.outs=x.outs∧True)∧True)∧True)∧(decide ((x_1.fst:Int)<(x.ins.length:Int))=false→(∃ (x_2:Nat×Int),LongJ x x_2.fst x_2.snd∧((↑x_2.fst :
 Int)=(0:Int)∧x_2.snd=x_1.snd)∧((x.lock=x.lock∧x.ins=x.ins∧x.outs=x.outs∧True)∧True)∧True)∧∀ (x_2:Nat×Int),LongJ x
 x_2.fst x_2.snd→(x.outs.length:Int)≤(9223372036854775807:Int)→(decide ((x_2.fst:Int)<(x.outs.length:Int))=true→(0:Int) ≤
 (x_2.fst:Int)∧(x_2.fst:Int)<(x.outs.length:Int)∧∀ (y:AA (82:Nat)),x.outs[(x_2.fst:Int).toNat]?=some y→(y.cond.length:Int)
 ≤ (9223372036854775807:Int)→inI64 (x_2.snd+(y.cond.length:Int))∧(∃ (x_3:Nat×Int),(∀ (o:TOut),x.outs[(x_2.fst:Int).toNat]?=some o→LongK o
 (x_2.snd+(y.cond.length:Int)) x_3.fst x_3.snd)∧((x_3.fst:Int)=(0:Int)∧x_3.snd=x_2.snd+(y.cond.length:Int))∧((x.lock=x.lock ∧
 x.ins=x.ins∧x.outs=x.outs∧True)∧True)∧True)∧∀ (x_3:Nat×Int),(∀ (o:TOut),x.outs[(x_2.fst:Int).toNat]?=some o→LongK o
 (x_2.snd+(y.cond.length:Int)) x_3.fst x_3.snd)→(0:Int)≤(x_2.fst:Int)∧(x_2.fst:Int)<(x.outs.length:Int)∧∀ (y_1:AA (82:Nat)),x.outs[(x_2.fst:Int).toNat]?=some y_1→(y_1.cond.length:Int)≤(9223372036854775807:Int)→(decide ((x_3.fst:Int) <
 (y_1.cond.length:Int))=true→(decide (x_3.snd<(400:Int))=true→(0:Int)≤(x_2.fst:Int)∧(x_2.fst:Int)<(x.outs.length:Int) ∧
 ∀ (y_2:AA (82:Nat)),x.outs[(x_2.fst:Int).toNat]?=some y_2→(0:Int)≤(x_3.fst:Int)∧(x_3.fst:Int)<(y_2.cond.length:Int)∧∀
 (y_3:AA (85:Nat)),y_2.cond[(x_3.fst:Int).toNat]?=some y_3→(y_3.keys.length:Int)≤(9223372036854775807:Int)→inI64 (x_3.snd +
 (y_3.keys.length:Int))∧inI64 ((x_3.fst:Int)+(1:Int))∧∃ (y_4:Nat×Int),(∀ (o:TOut),x.outs[(x_2.fst:Int).toNat]?=some o→LongK o (x_2.snd +
 (y.cond.length:Int)) y_4.fst y_4.snd)∧(2000001:Nat)-y_4.fst<(2000001:Nat)-x_3.fst∧((y_4.fst:Int)=(x_3.fst:Int)+(1:Int) ∧
 y_4.snd=x_3.snd+(y_3.keys.length:Int))∧((x.lock=x.lock∧x.ins=x.ins∧x.outs=x.outs∧True)∧True)∧True)∧(decide (x_3.snd<(400 :
 Int))=false→inI64 ((x_2.fst:Int)+(1:Int))∧∃ (y:Nat×Int),LongJ x y.fst y.snd∧x.outs.length-y.fst<x.outs.length-x_2.fst∧((y.fst:Int) =
 (x_2.fst:Int)+(1:Int)∧y.snd=x_3.snd)∧((x.lock=x.lock∧x.ins=x.ins∧x.outs=x.outs∧True)∧True)∧True))∧(decide ((↑x_3.fst :
 Int)<(y_1.cond.length:Int))=false→inI64 ((x_2.fst:Int)+(1:Int))∧∃ (y:Nat×Int),LongJ x y.fst y.snd∧x.outs.length-y.fst<x.outs.length -
 x_2.fst∧((y.fst:Int)=(x_2.fst:Int)+(1:Int)∧y.snd=x_3.snd)∧((x.lock=x.lock∧x.ins=x.ins∧x.outs=x.outs∧True)∧True) ∧
 True))∧(decide ((x_2.fst:Int)<(x.outs.length:Int))=false→longB x=decide (x_2.snd>(400:Int))∧True∧True)))
theorem longTx_eq:longTxVC=fnS F96 f8 (bodyOf f8) longTxLS longTxAnn:=by kernel_rfl
theorem longTx_vc:longTxVC:=by
 intro t hs
 have hn:=hs.n
 have hm:=hs.m
 simp only [and_true,decide_eq_true_eq,decide_eq_false_iff_not,Int.toNat_natCast]
 refine fun _ _=>⟨by unfold inI64; omega,fun h=>?_,fun h=>⟨⟨(0,_),⟨Nat.zero_le _,by omega,by omega,by simp only; omega,rfl⟩,rfl,rfl⟩,?_⟩⟩
 ·unfold longB
  rw [if_pos h]
 rintro ⟨i,n⟩ hI _
 simp only at hI ⊢
 refine ⟨fun hlt=>⟨by omega,hlt,fun y hy _=>?_⟩,fun hge=>⟨⟨(0,_),?_,rfl,rfl⟩,?_⟩⟩
 ·have hd:=dropAt (α:=TIn) (y:=y) hy
  obtain ⟨h1,h2,h3⟩:=tdiv16 (hs.s y (List.mem_of_getElem? hy))
  obtain ⟨i1,i2,i3,i4,i5⟩:=hI
  rw [h1]
  rw [hd] at i5
  simp only [secN] at i5
  exact ⟨by decide,by unfold inI64; omega,by unfold inI64; omega,(i+1,_),⟨by simp only; omega,i2,by simp only; omega,by simp only; omega,by simp only; omega⟩,by simp only; omega,by simp only; omega,rfl⟩
 ·obtain ⟨i1,i2,i3,i4,i5⟩:=hI
  rw [List.drop_of_length_le (by omega)] at i5
  simp only [secN] at i5
  exact ⟨Nat.zero_le _,i2,i3,by simp only; omega,by rw [i5]; simp⟩
 rintro ⟨j,n2⟩ hJ _
 simp only at hJ ⊢
 obtain ⟨j1,j2,j3,j4,j5⟩:=hJ
 refine ⟨fun hlt=>⟨by omega,hlt,fun y hy _=>?_⟩,fun hge=>?_⟩
 ·change TOut at y
  have hc:=hs.cond hy
  have hd:=dropAt (α:=TOut) (y:=y) hy
  rw [hd] at j5
  simp only [outCut] at j5
  refine ⟨by unfold inI64; omega,⟨(0,_),fun o ho=>?_,rfl,rfl⟩,?_⟩
  ·have e:y=o:=by rw [hy] at ho; exact Option.some.inj ho
   subst e
   exact ⟨Nat.zero_le _,by simp only; omega,.inr (Int.le_refl _),rfl⟩
  rintro ⟨k,n3⟩ hK
  obtain ⟨k1,k2,k3,k4⟩:=hK y hy
  simp only at k1 k2 k3 k4 ⊢
  have fin:n3=keyCut y.cond (n2+y.cond.length)→inI64 ((j:Int)+1)∧∃ z:Nat×Int,LongJ t z.1 z.2∧t.outs.length-z.1<t.outs.length-j∧(z.1:Int)=(j:Int)+1∧z.2=n3:=fun e=>
   ⟨by unfold inI64; omega,(j+1,n3),⟨by simp only; omega,j2,k2,by simp only; omega,by rw [j5,e]⟩,by simp only; omega,by simp only; omega,rfl⟩
  refine ⟨by omega,hlt,fun y1 hy1 _=>?_⟩
  have e:y=y1:=by rw [hy] at hy1; exact Option.some.inj hy1
  subst e
  refine ⟨fun hk=>⟨fun h4=>⟨by omega,hlt,fun y2 hy2=>?_⟩,fun h4=>?_⟩,fun hk=>?_⟩
  ·have e:y=y2:=by rw [hy] at hy2; exact Option.some.inj hy2
   subst e
   refine ⟨by omega,hk,fun b hb _=>?_⟩
   change Br at b
   have hb2:=keys_le (List.mem_of_getElem? hb)
   have hd2:=dropAt (α:=Br) (y:=b) hb
   refine ⟨by unfold inI64; omega,by unfold inI64; omega,(k+1,_),fun o ho=>?_,by simp only; omega,by simp only; omega,rfl⟩
   have e:y=o:=by rw [hy] at ho; exact Option.some.inj ho
   subst e
   refine ⟨by simp only; omega,by simp only; omega,.inl (by simp only; omega),?_⟩
   rw [k4,hd2]
   simp only [keyCut]
   rw [if_pos h4]
  ·refine fin ?_
   have hk':k<y.cond.length:=by omega
   rw [k4,List.drop_eq_getElem_cons hk']
   simp only [keyCut]
   rw [if_neg h4]
  ·refine fin ?_
   rw [k4,List.drop_of_length_le (by omega)]
   rfl
 ·unfold longB
  rw [if_neg h,j5,List.drop_of_length_le (by omega)]
  rfl
theorem longTx_ok:Fits F96 f8 (bodyOf f8) longTxLS longTxAnn:=by
 constructor
 rw [← longTx_eq]
 exact longTx_vc
theorem f29_has:Has prog 8 f8 (bodyOf f8):=⟨by kernel_rfl,by kernel_rfl,by kernel_rfl⟩
theorem known97:Known prog L97:=by
 unfold L97
 exact known96.lent mixed f29_has F96_eq longTx_ok (fun _ _=>Nat.le_refl _) (fun _ _=>rfl)
end Go.Proofs.YtcglahfmnoghjaaGreatDoor

/-! A transaction given; the document's check; TxChecks: the walks hold. Conditions: none. -/
namespace Go.Proofs.YtcglahfmnoghjaaGreatDoor
open Go Go.Eng Go.Proofs.Tryz
def giveTxVC:Prop:=∀ (x:TxD),Small x→(∃ x_1,Nat.le x_1 x.ins.length∧(x_1:Int)=(0:Int)∧((x.lock=x.lock∧x.ins=x.ins∧x.outs=x.outs∧True)∧((0 :
 Int)=(0:Int)∧(SV.val (A:=AA) (Value.slice none (0:Nat) (0:Nat)):SV AA)=SV.val (A:=AA) (Value.slice none (0:Nat) (0:Nat)) ∧
 (SV.val (A:=AA) (Value.slice none (0:Nat) (0:Nat)):SV AA)=SV.val (A:=AA) (Value.slice none (0:Nat) (0:Nat))∧True)∧(x.lock=x.lock
 ∧ (SV.val (A:=AA) (Value.slice none (0:Nat) (0:Nat)):SV AA)=SV.val (A:=AA) (Value.slice none (0:Nat) (0:Nat))∧(SV.val (A:=AA)
 (Value.slice none (0:Nat) (0:Nat)):SV AA)=SV.val (A:=AA) (Value.slice none (0:Nat) (0:Nat))∧True)∧True)∧List.take x_1 x.ins=[] ∧
 True)∧∀ (x_1:Nat),x_1.le x.ins.length→(x.ins.length:Int)≤(9223372036854775807:Int)→(decide ((x_1:Int)<(x.ins.length:Int)) =
 true→(0:Int)≤(x_1:Int)∧(x_1:Int)<(x.ins.length:Int)∧∀ (y:AA (80:Nat)),x.ins[(x_1:Int).toNat]?=some y→(0:Int) ≤
 (x_1:Int)∧(x_1:Int)<(x.ins.length:Int)∧∀ (y_1:AA (80:Nat)),x.ins[(x_1:Int).toNat]?=some y_1→(0:Int)≤(x_1:Int) ∧
 (x_1:Int)<(x.ins.length:Int)∧∀ (y_2:AA (80:Nat)),x.ins[(x_1:Int).toNat]?=some y_2→y_2.secret.length*(1:Nat) ≤
 (140737488355328:Nat)∧y_2.secret.length≤(1152921504606846976:Nat)∧(y.tx=y.tx∧y.n=y.n∧y_1.branch=y_1.branch∧y_2.secret =
 y_2.secret∧True)∧((List.take x_1 x.ins).length+[TIn.mk y.tx y.n y_1.branch y_2.secret].length)*(72:Nat)≤(140737488355328:Nat) ∧
 (List.take x_1 x.ins).length+[TIn.mk y.tx y.n y_1.branch y_2.secret].length≤(1152921504606846976:Nat)∧inI64 ((x_1:Int)+(1:Int))∧∃ y_3,
 Nat.le y_3 x.ins.length∧x.ins.length-y_3<x.ins.length-x_1∧(y_3:Int)=(x_1:Int)+(1:Int)∧((x.lock=x.lock∧x.ins=x.ins ∧
 x.outs=x.outs∧True)∧((0:Int)=(0:Int)∧(SV.val (A:=AA) (Value.slice none (0:Nat) (0:Nat)):SV AA)=SV.val (A:=AA) (Value.slice
 none (0:Nat) (0:Nat))∧(SV.val (A:=AA) (Value.slice none (0:Nat) (0:Nat)):SV AA)=SV.val (A:=AA) (Value.slice none (0:Nat) (0:Nat))
 ∧ True)∧(x.lock=x.lock∧True∧(SV.val (A:=AA) (Value.slice none (0:Nat) (0:Nat)):SV AA)=SV.val (A:=AA) (Value.slice none (0:Nat) (0
 : Nat))∧True)∧True)∧List.take y_3 x.ins=List.take x_1 x.ins++[TIn.mk y.tx y.n y_1.branch y_2.secret]∧True)∧(decide ((x_1:Int) <
 (x.ins.length:Int))=false→(∃ x_2,Nat.le x_2 x.outs.length∧(x_2:Int)=(0:Int)∧((x.lock=x.lock∧x.ins=x.ins∧x.outs=x.outs ∧
 True)∧((0:Int)=(0:Int)∧(SV.val (A:=AA) (Value.slice none (0:Nat) (0:Nat)):SV AA)=SV.val (A:=AA) (Value.slice none (0:Nat) (0 :
 Nat))∧(SV.val (A:=AA) (Value.slice none (0:Nat) (0:Nat)):SV AA)=SV.val (A:=AA) (Value.slice none (0:Nat) (0:Nat))∧True)∧(x.lock =
 x.lock∧True∧(SV.val (A:=AA) (Value.slice none (0:Nat) (0:Nat)):SV AA)=SV.val (A:=AA) (Value.slice none (0:Nat) (0:Nat))∧True) ∧
 List.take x_1 x.ins=List.take x_1 x.ins∧True)∧List.take x_2 x.outs=[]∧True)∧∀ (x_2:Nat),x_2.le x.outs.length→(x.outs.length:Int) ≤
 (9223372036854775807:Int)→(decide ((x_2:Int)<(x.outs.length:Int))=true→(0:Int)≤(x_2:Int)∧(x_2:Int)<(x.outs.length:Int)
 ∧ ∀ (y:AA (82:Nat)),x.outs[(x_2:Int).toNat]?=some y→(0:Int)≤(x_2:Int)∧(x_2:Int)<(x.outs.length:Int)∧∀ (y_1:AA (82:Nat)),x.outs[(x_2:Int).toNat]?=some y_1→(y_1.cond=y_1.cond∧True)∧True∧(weight y_1.cond).le (2000000:Nat)∧(y.amount=y.amount ∧
 y_1.cond=y_1.cond∧True)∧((List.take x_2 x.outs).length+[TOut.mk y.amount y_1.cond].length)*(32:Nat)≤(140737488355328:Nat)∧(List.take
 x_2 x.outs).length+[TOut.mk y.amount y_1.cond].length≤(1152921504606846976:Nat)∧inI64 ((x_2:Int)+(1:Int))∧∃ y_2,Nat.le y_2
 x.outs.length∧x.outs.length-y_2<x.outs.length-x_2∧(y_2:Int)=(x_2:Int)+(1:Int)∧((x.lock=x.lock∧x.ins=x.ins∧x.outs =
 x.outs∧True)∧((0:Int)=(0:Int)∧SV.val (A:=AA) (Value.slice none (0:Nat) (0:Nat))=SV.val (A:=AA) (Value.slice none (0:Nat) (0 :
 Nat))∧SV.val (A:=AA) (Value.slice none (0:Nat) (0:Nat))=SV.val (A:=AA) (Value.slice none (0:Nat) (0:Nat))∧True)∧(x.lock=x.lock ∧
 True∧True∧True)∧List.take x_1 x.ins=List.take x_1 x.ins∧True)∧List.take y_2 x.outs=List.take x_2 x.outs++[TOut.mk y.amount y_1.cond] ∧
 True)∧(decide ((x_2:Int)<(x.outs.length:Int))=false→(x.lock=x.lock∧True∧True∧True)∧True∧x.ins=List.take x_1 x.ins∧x.outs
 = List.take x_2 x.outs∧True))
theorem giveTx_eq:giveTxVC=fnS F97 f10 (bodyOf f10) giveTxLS giveTxAnn:=by kernel_rfl
theorem giveTx_vc:giveTxVC:=by
 intro t hs
 have hn:=hs.n
 have hm:=hs.m
 simp only [true_and,and_true,decide_eq_true_eq,decide_eq_false_iff_not,Int.toNat_natCast,and_self]
 refine ⟨⟨0,Nat.zero_le _,rfl,rfl⟩,fun i hi _=>⟨fun hlt=>⟨by omega,hlt,fun y hy=>⟨by omega,hlt,fun y1 hy1=>⟨by omega,hlt,fun y2 hy2=>?_⟩⟩⟩,fun hge=>⟨⟨0,Nat.zero_le _,rfl,rfl⟩,fun j hj _=>⟨fun hlt=>⟨by omega,hlt,fun y hy=>⟨by omega,hlt,fun y1 hy1=>?_⟩⟩,fun hge2=>?_⟩⟩⟩⟩
 ·change TIn at y
  change TIn at y1
  change TIn at y2
  have e:y=y1:=by rw [hy] at hy1; exact Option.some.inj hy1
  subst e
  have e:y=y2:=by rw [hy] at hy2; exact Option.some.inj hy2
  subst e
  have hs1:=hs.s y (List.mem_of_getElem? hy)
  have hl:(t.ins.take i).length=i:=by rw [List.length_take]; omega
  have hcat:t.ins.take (i+1)=t.ins.take i++[show TIn from y]:=by
   have hy':t.ins[i]?=some y:=hy
   rw [List.take_add_one,hy']; rfl
  have hi':i<t.ins.length:=by omega
  have h1:(t.ins.take i).length+1≤2000000:=by omega
  exact ⟨by omega,by omega,Nat.le_trans (Nat.mul_le_mul_right 72 h1) (by decide),Nat.le_trans h1 (by decide),by unfold inI64; omega,i+1,hi',by omega,by omega,hcat⟩
 ·change TOut at y
  change TOut at y1
  have e:y=y1:=by rw [hy] at hy1; exact Option.some.inj hy1
  subst e
  have hc:=hs.cond hy
  have hl:(t.outs.take j).length=j:=by rw [List.length_take]; omega
  have hcat:t.outs.take (j+1)=t.outs.take j++[show TOut from y]:=by
   have hy':t.outs[j]?=some y:=hy
   rw [List.take_add_one,hy']; rfl
  have hj':j<t.outs.length:=by omega
  have h1:(t.outs.take j).length+1≤2000000:=by omega
  exact ⟨hc,Nat.le_trans (Nat.mul_le_mul_right 32 h1) (by decide),Nat.le_trans h1 (by decide),by unfold inI64; omega,j+1,hj',by omega,by omega,hcat⟩
 ·exact ⟨(List.take_of_length_le (by omega)).symm,(List.take_of_length_le (by omega)).symm⟩
theorem giveTx_ok:Fits F97 f10 (bodyOf f10) giveTxLS giveTxAnn:=by
 constructor
 rw [← giveTx_eq]
 exact giveTx_vc
theorem f32_has:Has prog 10 f10 (bodyOf f10):=⟨by kernel_rfl,by kernel_rfl,by kernel_rfl⟩
theorem known98:Known prog L98:=by
 unfold L98
 exact known97.lent mixed f32_has F97_eq giveTx_ok (fun _ _=>Nat.zero_le _) (fun _ _=>rfl)
def Odd4 (t:TxD):Prop:=t.lock<0∨t.lock>1099511627776∨someB t.ins.length=false∨someB t.outs.length=false∨badIn t.ins 0≥0
theorem checkT_4 {t:TxD} (h:Odd4 t):checkT t=4:=by
 unfold checkT
 exact if_pos h
theorem checkT_9 {t:TxD} (h:¬Odd4 t) (h2:¬(t.ins.map ptOf).Nodup):checkT t=9:=by
 unfold checkT
 exact (if_neg h).trans (if_pos h2)
theorem checkT_o {t:TxD} (h:¬Odd4 t) (h2:(t.ins.map ptOf).Nodup):checkT t=if outsE t.outs≠0 then outsE t.outs else (totG t.outs 0).2:=by
 unfold checkT
 refine (if_neg h).trans ((if_neg (fun h3=>h3 h2)).trans ?_)
 split<;>rfl
theorem some_out {n:Int} (h:n<1∨n>64):someB n=false:=by
 unfold someB
 simp only [Bool.and_eq_false_imp,decide_eq_true_eq,decide_eq_false_iff_not]
 omega
theorem some_in {n:Int} (h:¬n<1) (h2:¬n>64):someB n=true:=by
 unfold someB
 simp only [Bool.and_eq_true,decide_eq_true_eq]
 omega
theorem inOk_iff {x:TIn}:inOk x=true↔0≤x.n∧x.n<64∧0≤x.branch∧x.branch<8∧(x.secret.length:Int)≤64:=by
 unfold inOk
 simp only [Bool.and_eq_true,decide_eq_true_eq]
def rcheckVC:Prop:=∀ (x:TxD),Lens x→(decide (x.lock<(0:Int))=true→checkT x=(4:Int)∧True∧True)∧(decide (x.lock<(0:Int))=false→(decide
 (x.lock>(1099511627776:Int))=true→checkT x=(4:Int)∧True∧True)∧(decide (x.lock>(1099511627776:Int))=false→(↑x.ins.length :
 Int)≤(9223372036854775807:Int)→(decide ((x.ins.length:Int)<(1:Int))=true→checkT x=(4:Int)∧True∧True)∧(decide ((↑x.ins.length
 : Int)<(1:Int))=false→(x.ins.length:Int)≤(9223372036854775807:Int)→(decide ((x.ins.length:Int)>(64:Int))=true→checkT x=(4
 : Int)∧True∧True)∧(decide ((x.ins.length:Int)>(64:Int))=false→(x.outs.length:Int)≤(9223372036854775807:Int)→(decide
 ((x.outs.length:Int)<(1:Int))=true→checkT x=(4:Int)∧True∧True)∧(decide ((x.outs.length:Int)<(1:Int))=false →
 (x.outs.length:Int)≤(9223372036854775807:Int)→(decide ((x.outs.length:Int)>(64:Int))=true→checkT x=(4:Int)∧True∧True) ∧
 (decide ((x.outs.length:Int)>(64:Int))=false→(∃ (x_1:Nat),(x_1≤x.ins.length∧badIn x.ins (0:Nat)=badIn (List.drop x_1 x.ins) x_1)∧(↑x_1
 : Int)=(0:Int)∧((x.lock=x.lock∧x.ins=x.ins∧x.outs=x.outs∧True)∧True)∧True)∧∀ (x_1:Nat),x_1≤x.ins.length∧badIn x.ins (0 :
 Nat)=badIn (List.drop x_1 x.ins) x_1→(x.ins.length:Int)≤(9223372036854775807:Int)→(decide ((x_1:Int)<(x.ins.length:Int))=true →
 (0:Int)≤(x_1:Int)∧(x_1:Int)<(x.ins.length:Int)∧∀ (y:AA (80:Nat)),x.ins[(x_1:Int).toNat]?=some y→(decide (y.n<(0 :
 Int))=true→checkT x=(4:Int)∧True∧True)∧(decide (y.n<(0:Int))=false→(decide (y.n>(63:Int))=true→checkT x=(4:Int) ∧
 True∧True)∧(decide (y.n>(63:Int))=false→(decide (y.branch<(0:Int))=true→checkT x=(4:Int)∧True∧True)∧(decide (y.branch <
 (0:Int))=false→(decide (y.branch>(7:Int))=true→checkT x=(4:Int)∧True∧True)∧(decide (y.branch>(7:Int))=false →
 (y.secret.length:Int)≤(9223372036854775807:Int)→(decide ((y.secret.length:Int)>(64:Int))=true→checkT x=(4:Int)∧True∧True) ∧
 (decide ((y.secret.length:Int)>(64:Int))=false→inI64 ((x_1:Int)+(1:Int))∧∃ (y:Nat),(y≤x.ins.length∧badIn x.ins (0:Nat)=badIn
 (List.drop y x.ins) y)∧x.ins.length-y<x.ins.length-x_1∧(y:Int)=(x_1:Int)+(1:Int)∧((x.lock=x.lock∧x.ins=x.ins∧x.outs =
 x.outs∧True)∧True)∧True))))))∧(decide ((x_1:Int)<(x.ins.length:Int))=false→(∃ (x_2:Nat),(x_2≤x.ins.length∧(List.map ptOf (List.take
 x_2 x.ins)).Nodup)∧(x_2:Int)=(0:Int)∧((x.lock=x.lock∧x.ins=x.ins∧x.outs=x.outs∧True)∧True)∧True)∧∀ (x_2:Nat),x_2 ≤
 x.ins.length∧(List.map ptOf (List.take x_2 x.ins)).Nodup→(x.ins.length:Int)≤(9223372036854775807:Int)→(decide ((x_2:Int) <
 (x.ins.length:Int))=true→(∃ (x_3:Nat),((x_3:Int)≤(x_2:Int)∧∀ (x_4:TIn),x.ins[(x_2:Int).toNat]?=some x_4→¬ptOf x_4∈List.map ptOf
 (List.take x_3 x.ins))∧(x_3:Int)=(0:Int)∧((x.lock=x.lock∧x.ins=x.ins∧x.outs=x.outs∧True)∧True)∧True)∧∀ (x_3:Nat),((↑x_3
 : Int)≤(x_2:Int)∧∀ (x_4:TIn),x.ins[(x_2:Int).toNat]?=some x_4→¬ptOf x_4∈List.map ptOf (List.take x_3 x.ins))→(decide ((x_3:Int)
 < (x_2:Int))=true→(0:Int)≤(x_2:Int)∧(x_2:Int)<(x.ins.length:Int)∧∀ (y:AA (80:Nat)),x.ins[(x_2:Int).toNat]?=some y
 → (0:Int)≤(x_3:Int)∧(x_3:Int)<(x.ins.length:Int)∧∀ (y_1:AA (80:Nat)),x.ins[(x_3:Int).toNat]?=some y_1→((y.tx==y_1.tx
 && (y.n==y_1.n&&true))=true→checkT x=(9:Int)∧True∧True)∧((y.tx==y_1.tx&&(y.n==y_1.n&&true))=false→inI64 ((x_3:Int) +
 (1:Int))∧∃ (y:Nat),((y:Int)≤(x_2:Int)∧∀ (x_4:TIn),x.ins[(x_2:Int).toNat]?=some x_4→¬ptOf x_4∈List.map ptOf (List.take y x.ins)) ∧
 (x_2:Int).toNat-y<(x_2:Int).toNat-x_3∧(y:Int)=(x_3:Int)+(1:Int)∧((x.lock=x.lock∧x.ins=x.ins∧x.outs=x.outs∧True)
 ∧ True)∧True))∧(decide ((x_3:Int)<(x_2:Int))=false→inI64 ((x_2:Int)+(1:Int))∧∃ (y:Nat),(y≤x.ins.length∧(List.map ptOf
 (List.take y x.ins)).Nodup)∧x.ins.length-y<x.ins.length-x_2∧(y:Int)=(x_2:Int)+(1:Int)∧((x.lock=x.lock∧x.ins=x.ins ∧
 x.outs=x.outs∧True)∧True)∧True))∧(decide ((x_2:Int)<(x.ins.length:Int))=false→(∃ (x_3:Nat),(x_3≤x.outs.length∧outsE x.outs=outsE
 (List.drop x_3 x.outs))∧(x_3:Int)=(0:Int)∧((x.lock=x.lock∧x.ins=x.ins∧x.outs=x.outs∧True)∧True)∧True)∧∀ (x_3:Nat),x_3 ≤
 x.outs.length∧outsE x.outs=outsE (List.drop x_3 x.outs)→(x.outs.length:Int)≤(9223372036854775807:Int)→(decide ((x_3:Int) <
 (x.outs.length:Int))=true→(0:Int)≤(x_3:Int)∧(x_3:Int)<(x.outs.length:Int)∧∀ (y:AA (82:Nat)),x.outs[(x_3:Int).toNat]?
 = some y→(decide (y.amount<(10:Int))=true→checkT x=(27:Int)∧True∧True)∧(decide (y.amount<(10:Int))=false→(0:Int)≤(↑x_3
 : Int)∧(x_3:Int)<(x.outs.length:Int)∧∀ (y:AA (82:Nat)),x.outs[(x_3:Int).toNat]?=some y→(decide (y.amount>(1125899906842624 :
 Int))=true→checkT x=(5:Int)∧True∧True)∧(decide (y.amount>(1125899906842624:Int))=false→(0:Int)≤(x_3:Int)∧(x_3:Int) <
 (x.outs.length:Int)∧∀ (y:AA (82:Nat)),x.outs[(x_3:Int).toNat]?=some y→y.cond.length.le (9223372036854775807:Nat)∧(((bif fineB
 y.cond then (0:Int) else (1:Int)) != (0:Int))=true→(checkT x=bif fineB y.cond then (0:Int) else (1:Int))∧True∧True)∧(((bif fineB
 y.cond then (0:Int) else (1:Int)) != (0:Int))=false→inI64 ((x_3:Int)+(1:Int))∧∃ (y:Nat),(y≤x.outs.length∧outsE x.outs=outsE
 (List.drop y x.outs))∧x.outs.length-y<x.outs.length-x_3∧(y:Int)=(x_3:Int)+(1:Int)∧((x.lock=x.lock∧x.ins=x.ins∧x.outs =
 x.outs∧True)∧True)∧True))))∧(decide ((x_3:Int)<(x.outs.length:Int))=false→(x.lock=x.lock∧x.ins=x.ins∧x.outs=x.outs ∧
 True)∧True∧True∧checkT x=(totG x.outs (0:Int)).snd∧True∧True)))))))))
theorem rcheck_eq:rcheckVC=fnS F98 f73 (bodyOf f73) rcheckLS rcheckAnn:=by kernel_rfl
theorem rcheck_vc:rcheckVC:=by
 intro t hs
 have hn:=hs.n
 have hm:=hs.m
 simp only [true_and,and_true,decide_eq_true_eq,decide_eq_false_iff_not,Int.toNat_natCast]
 refine ⟨fun h=>checkT_4 (.inl h),fun a1=>⟨fun h=>checkT_4 (.inr (.inl h)),fun a2 _=>⟨fun h=>checkT_4 (.inr (.inr (.inl (some_out (.inl h))))),fun a3 _=>⟨fun h=>checkT_4 (.inr (.inr (.inl (some_out (.inr h))))),
  fun a4 _=>⟨fun h=>checkT_4 (.inr (.inr (.inr (.inl (some_out (.inl h)))))),fun a5 _=>⟨fun h=>checkT_4 (.inr (.inr (.inr (.inl (some_out (.inr h)))))),fun a6=>?_⟩⟩⟩⟩⟩⟩
 refine ⟨⟨0,⟨Nat.zero_le _,rfl⟩,rfl⟩,fun i hi _=>⟨fun hlt=>⟨by omega,hlt,fun y hy=>?_⟩,fun hge=>?_⟩⟩
 ·change TIn at y
  have hd:=dropAt (α:=TIn) (y:=y) hy
  have hb:=hi.2
  rw [hd] at hb
  simp only [badIn] at hb
  have bad:¬inOk y=true→checkT t=4:=fun h=>by
   rw [if_neg h] at hb
   exact checkT_4 (.inr (.inr (.inr (.inr (by rw [hb]; omega)))))
  refine ⟨fun h=>bad (by rw [inOk_iff]; omega),fun b1=>⟨fun h=>bad (by rw [inOk_iff]; omega),fun b2=>⟨fun h=>bad (by rw [inOk_iff]; omega),fun b3=>⟨fun h=>bad (by rw [inOk_iff]; omega),fun b4 _=>⟨fun h=>bad (by rw [inOk_iff]; omega),fun b5=>
   ⟨by unfold inI64; omega,i+1,⟨by omega,?_⟩,by omega,by omega⟩⟩⟩⟩⟩⟩
  rw [hb,if_pos (by rw [inOk_iff]; omega)]
 have hb:badIn t.ins 0 = -1:=by
  rw [hi.2,List.drop_of_length_le (by omega)]
  rfl
 have first:¬Odd4 t:=by
  rintro (h | h | h | h | h)
  ·exact a1 h
  ·exact a2 h
  ·rw [some_in a3 a4] at h; cases h
  ·rw [some_in a5 a6] at h; cases h
  ·omega
 refine ⟨⟨0,⟨Nat.zero_le _,by simp⟩,rfl⟩,fun i2 hi2 _=>⟨fun hlt=>?_,fun hge2=>?_⟩⟩
 ·have hl2:i2<t.ins.length:=by omega
  refine ⟨⟨0,⟨by omega,fun x _=>by simp⟩,rfl⟩,fun j hj=>⟨fun hlt2=>⟨by omega,hlt,fun y hy=>⟨by omega,by omega,fun y1 hy1=>⟨fun heq=>?_,fun hne=>?_⟩⟩⟩,fun hge3=>?_⟩⟩
  ·change TIn at y
   change TIn at y1
   refine checkT_9 first fun hnd=>?_
   have hp:ptOf y=ptOf y1:=by
    simp only [Bool.and_eq_true,beq_iff_eq,and_true] at heq
    unfold ptOf
    rw [heq.1,heq.2]
   have hy':t.ins[i2]?=some y:=hy
   have hy1':t.ins[j]?=some y1:=hy1
   have hjl:j<t.ins.length:=by omega
   have h1:=List.pairwise_iff_getElem.1 hnd j i2 (by simpa using hjl) (by simpa using hl2) (by omega)
   rw [List.getElem?_eq_getElem hl2] at hy'
   rw [List.getElem?_eq_getElem hjl] at hy1'
   rw [List.getElem_map,List.getElem_map,Option.some.inj hy',Option.some.inj hy1'] at h1
   exact h1 hp.symm
  ·change TIn at y
   change TIn at y1
   refine ⟨by unfold inI64; omega,j+1,⟨by omega,fun x hx=>?_⟩,by omega,by omega⟩
   have e:y=x:=by
    have hy':t.ins[i2]?=some y:=hy
    rw [hy'] at hx
    exact Option.some.inj hx
   subst e
   have hy1':t.ins[j]?=some y1:=hy1
   rw [List.take_add_one,hy1',List.map_append,List.mem_append]
   rintro (h | h)
   ·exact hj.2 y hx h
   ·simp only [Option.toList_some,List.map_cons,List.map_nil,List.mem_singleton] at h
    simp only [ptOf,Pt.mk.injEq] at h
    simp [h.1,h.2] at hne
  ·refine ⟨by unfold inI64; omega,i2+1,⟨by omega,?_⟩,by omega,by omega⟩
   have hij:j=i2:=by omega
   subst hij
   have hx:t.ins[j]?=some t.ins[j]:=List.getElem?_eq_getElem hl2
   rw [List.take_add_one,hx,List.map_append,List.nodup_append]
   refine ⟨hi2.2,by simp,fun p hp q hq e=>?_⟩
   simp only [Option.toList_some,List.map_cons,List.map_nil,List.mem_singleton] at hq
   subst e
   rw [hq] at hp
   exact hj.2 _ hx hp
 have hnd:(t.ins.map ptOf).Nodup:=by
  have:=hi2.2
  rwa [List.take_of_length_le (by omega)] at this
 have hout:=checkT_o first hnd
 refine ⟨⟨0,⟨Nat.zero_le _,rfl⟩,rfl⟩,fun k hk _=>⟨fun hlt=>⟨by omega,hlt,fun y hy=>?_⟩,fun hge4=>?_⟩⟩
 ·change TOut at y
  have hd:=dropAt (α:=TOut) (y:=y) hy
  have ho:=hk.2
  rw [hd] at ho
  simp only [outsE] at ho
  have bad:outE y≠0→checkT t=outE y:=fun h=>by
   rw [if_neg h] at ho
   rw [hout,ho,if_pos h]
  refine ⟨fun h=>?_,fun c1=>⟨by omega,hlt,fun y2 hy2=>?_⟩⟩
  ·have:outE y=27:=by unfold outE; rw [if_pos h]
   rw [bad (by rw [this]; decide),this]
  have e:y=y2:=by rw [hy] at hy2; exact Option.some.inj hy2
  subst e
  refine ⟨fun h=>?_,fun c2=>⟨by omega,hlt,fun y2 hy2=>?_⟩⟩
  ·have:outE y=5:=by unfold outE; rw [if_neg c1,if_pos h]
   rw [bad (by rw [this]; decide),this]
  have e:y=y2:=by rw [hy] at hy2; exact Option.some.inj hy2
  subst e
  have hce:outE y=checkN y.cond:=by unfold outE; rw [if_neg c1,if_neg c2]
  have hc:=hs.c y (List.mem_of_getElem? hy)
  refine ⟨Nat.le_trans hc (by decide),fun h=>?_,fun h=>⟨by unfold inI64; omega,k+1,⟨by omega,?_⟩,by omega,by omega⟩⟩
  ·have h':outE y≠0:=by rw [hce]; simpa [checkN] using h
   rw [bad h',hce]
   rfl
  ·have h':outE y=0:=by rw [hce]; simpa [checkN] using h
   rw [ho,if_pos h']
 ·rw [hout,hk.2,List.drop_of_length_le (by omega)]
  rfl
theorem rcheck_ok:Fits F98 f73 (bodyOf f73) rcheckLS rcheckAnn:=by
 constructor
 rw [← rcheck_eq]
 exact rcheck_vc
theorem f36_has:Has prog 73 f73 (bodyOf f73):=⟨by kernel_rfl,by kernel_rfl,by kernel_rfl⟩
theorem known99:Known prog L99:=by
 unfold L99
 exact known98.lent mixed f36_has F98_eq rcheck_ok (fun _ _=>Nat.le_refl _) (fun _ _=>rfl)
theorem Small.lens {t:TxD} (h:Small t):Lens t where
 n:=h.n
 m:=h.m
 c:=fun o ho=>by
  have:=weight_le ho
  have:=h.w
  unfold weight at *
  omega
end Go.Proofs.YtcglahfmnoghjaaGreatDoor

/-! What the reading of a transaction comes to; TxChecks' call. Conditions: none. -/
namespace Go.Proofs.YtcglahfmnoghjaaGreatDoor
open Go Go.Eng Go.Proofs.Tryz Go.ChangeShapes Go.WideShapes Go.RowKit
section
variable {H:Type} {enc:TypeId×Value→H} {w:World} {sp:Nat→Bool} {held:Bool}
theorem bulk_mem {d:DataW H}:∀ {ds:List (DataW H)},d∈ds→Rows.uptoBulk d≤Rows.uptoBulkAll ds
 | x::ds,h=>by
  simp only [Rows.uptoBulkAll]
  rcases List.mem_cons.1 h with e | h
  ·subst e; omega
  ·have:=bulk_mem h; omega
theorem delems_all (d:DataW H):Rows.uptoBulkAll (delems d)≤Rows.uptoBulk d:=by
 cases d with
 | slice e sp=>have:=bulks.slice_elems e sp; simp only [delems]; omega
 | _=>simp [delems,Rows.uptoBulkAll]
structure GIn (x:TIn) (d:DataW H):Prop where
 n:inI64 x.n
 br:inI64 x.branch
 tx:x.tx.length=32∧Byt x.tx
 sec:x.secret.length≤Rows.uptoBulk d
 bytes:Byt x.secret
structure GOut (o:TOut) (d:DataW H):Prop where
 am:inI64 o.amount
 wf:CondWf o.cond
 w:weight o.cond≤Rows.uptoBulk d
theorem rd_point_of {tP tL tI tE:TypeId} {fs:Array Field} (hP:prog.underlying tP=some (.struct fs)) (hfs:fs.toList.map (fun f=>(f.type,f.offset))=[(tL,0),(tI,32)]) (hL:prog.underlying tL=some (.array 32 tE)) (hE:prog.underlying tE=some (.int .u8))
  (hI:prog.underlying tI=some (.int .i64)) (cP:prog.cellsOf tP=33) (cL:prog.cellsOf tL=32) (cE:prog.cellsOf tE=1) (cI:prog.cellsOf tI=1) :
  RdT enc prog w sp held CC tP fun sl _=>∃ p:Pt,sl=encPt p∧p.tx.length=32∧Byt p.tx∧inI64 p.n:=by
 match hl:fs.toList,hfs with
 | [f1,f2],hfs=>
  simp only [List.map_cons,List.map_nil,List.cons.injEq,Prod.mk.injEq,and_true] at hfs
  obtain ⟨⟨t1,o1⟩,t2,o2⟩:=hfs
  refine RdT.mono (rd_struct hP (by
   rw [hl]
   exact rd_fs_cons o1 (by rw [t1]; exact rd_arr hL hE cE cL) (rd_fs_cons (by rw [t1,cL,o2]) (by rw [t2]; exact rd_int hI) (rd_fs_nil (by rw [t1,t2,cL,cI,cP]; omega))))) ?_
  rintro sl d ⟨ds,rfl,s1,s2,d1,ds1,rfl,rfl,⟨lk,rfl,h3,h4⟩,s3,s4,d2,ds2,rfl,rfl,⟨n,rfl,h1⟩,rfl,rfl⟩
  exact ⟨⟨lk,n⟩,rfl,h3,fun y hy=>wf8 (h4 y hy),wf_i64 h1⟩
 | [],hfs=>simp at hfs
 | [_],hfs=>simp at hfs
 | _::_::_::_,hfs=>simp at hfs
theorem cells87:prog.cellsOf 29=33:=by kernel_rfl
theorem rd_point:RdT enc prog w sp held CC 29 fun sl _=>∃ p:Pt,sl=encPt p∧p.tx.length=32∧Byt p.tx∧inI64 p.n:=
 rd_point_of underlying29 rfl underlying27 underlying5 underlying3 cells87 cells44 cells5 cells3
theorem rd_tin_of {tN tP tI tS tE:TypeId} {fs:Array Field} (hN:prog.underlying tN=some (.struct fs)) (hfs:fs.toList.map (fun f=>(f.type,f.offset))=[(tP,0),(tI,33),(tS,34)]) (hP:tP=29)
  (hI:prog.underlying tI=some (.int .i64)) (hS:prog.underlying tS=some (.slice tE)) (hE:prog.underlying tE=some (.int .u8)) (cN:prog.cellsOf tN=35) (cI:prog.cellsOf tI=1) (cS:prog.cellsOf tS=1) (cE:prog.cellsOf tE=1) :
  RdT enc prog w sp held CC tN fun sl d=>∃ x:AA 80,sl=CC.enc 80 x∧GIn (H:=H) x d:=by
 subst hP
 match hl:fs.toList,hfs with
 | [f1,f2,f3],hfs=>
  simp only [List.map_cons,List.map_nil,List.cons.injEq,Prod.mk.injEq,and_true] at hfs
  obtain ⟨⟨t1,o1⟩,⟨t2,o2⟩,t3,o3⟩:=hfs
  refine RdT.mono (rd_struct hN (by
   rw [hl]
   exact rd_fs_cons o1 (by rw [t1]; exact rd_point) (rd_fs_cons (by rw [t1,cells87,o2]) (by rw [t2]; exact rd_int hI)
    (rd_fs_cons (by rw [t1,t2,cells87,cI,o3]) (by rw [t3]; exact rd_ints hS hE cE) (rd_fs_nil (by rw [t1,t2,t3,cells87,cI,cS,cN]; omega)))))) ?_
  rintro sl d ⟨ds,rfl,s1,s2,d1,ds1,rfl,rfl,⟨p,rfl,h1,h2,h7⟩,s3,s4,d2,ds2,rfl,rfl,⟨n,rfl,h8⟩,s5,s6,d3,ds3,rfl,rfl,⟨xs,rfl,h3,h4⟩,rfl,rfl⟩
  refine ⟨TIn.mk p.tx p.n n xs,?_,⟨h7,wf_i64 h8,⟨h1,h2⟩,?_,fun y hy=>wf8 (h4 y hy)⟩⟩
  ·rfl
  ·have:=delems_le d3
   simp only [Rows.uptoBulk,Rows.uptoBulkAll]
   omega
 | [],hfs=>simp at hfs
 | [_],hfs=>simp at hfs
 | [_,_],hfs=>simp at hfs
 | _::_::_::_::_,hfs=>simp at hfs
theorem cells117:prog.cellsOf 80=35:=by kernel_rfl
theorem cells26':prog.cellsOf 51=1:=by kernel_rfl
theorem rd_tin:RdT enc prog w sp held CC 80 fun sl d=>∃ x:AA 80,sl=CC.enc 80 x∧GIn (H:=H) x d:=
 rd_tin_of underlying80 rfl rfl underlying3 underlying51 underlying5 cells117 cells3 cells26' cells5
theorem rd_tout_of {tO tI tC:TypeId} {fs:Array Field} (hO:prog.underlying tO=some (.struct fs)) (hfs:fs.toList.map (fun f=>(f.type,f.offset))=[(tI,0),(tC,1)]) (hI:prog.underlying tI=some (.int .i64)) (hC:tC=50)
  (cO:prog.cellsOf tO=2) (cI:prog.cellsOf tI=1) :
  RdT enc prog w sp held CC tO fun sl d=>∃ x:AA 82,sl=CC.enc 82 x∧GOut (H:=H) x d:=by
 subst hC
 match hl:fs.toList,hfs with
 | [f1,f2],hfs=>
  simp only [List.map_cons,List.map_nil,List.cons.injEq,Prod.mk.injEq,and_true] at hfs
  obtain ⟨⟨t1,o1⟩,t2,o2⟩:=hfs
  refine RdT.mono (rd_struct hO (by
   rw [hl]
   exact rd_fs_cons o1 (by rw [t1]; exact rd_int hI) (rd_fs_cons (by rw [t1,cI,o2]) (by rw [t2]; exact rd_cond) (rd_fs_nil (by rw [t1,t2,cI,cells24,cO]; omega))))) ?_
  rintro sl d ⟨ds,rfl,s1,s2,d1,ds1,rfl,rfl,⟨n,rfl,h7⟩,s3,s4,d2,ds2,rfl,rfl,⟨bs,rfl,h1,h2⟩,rfl,rfl⟩
  refine ⟨TOut.mk n bs,rfl,⟨wf_i64 h7,h1,?_⟩⟩
  simp only [Rows.uptoBulk,Rows.uptoBulkAll]
  omega
 | [],hfs=>simp at hfs
 | [_],hfs=>simp at hfs
 | _::_::_::_,hfs=>simp at hfs
theorem cells79:prog.cellsOf 82=2:=by kernel_rfl
theorem rd_tout:RdT enc prog w sp held CC 82 fun sl d=>∃ x:AA 82,sl=CC.enc 82 x∧GOut (H:=H) x d:=
 rd_tout_of underlying82 rfl underlying3 rfl cells79 cells3
theorem sumW_le:∀ {os:List TOut} {ds:List (DataW H)},os.length=ds.length→(∀ (j:Nat) y d,os[j]?=some y→ds[j]?=some d→GOut y d)→sumW os≤Rows.uptoBulkAll ds
 | [],[],_,_=>by simp [sumW]
 | o::os,d::ds,hl,h=>by
  have h1:=(h 0 o d rfl rfl).w
  have h2:=sumW_le (os:=os) (ds:=ds) (by simpa using hl) (fun j y d' hy hd=>h (j+1) y d' (by simpa using hy) (by simpa using hd))
  simp only [sumW,Rows.uptoBulkAll]
  omega
 | [],_::_,hl,_=>by simp at hl
 | _::_,[],hl,_=>by simp at hl
theorem sumS_le:∀ {xs:List TIn} {ds:List (DataW H)},xs.length=ds.length→(∀ (j:Nat) y d,xs[j]?=some y→ds[j]?=some d→GIn y d)→sumS xs≤Rows.uptoBulkAll ds
 | [],[],_,_=>by simp [sumS]
 | o::os,d::ds,hl,h=>by
  have h1:=(h 0 o d rfl rfl).sec
  have h2:=sumS_le (xs:=os) (ds:=ds) (by simpa using hl) (fun j y d' hy hd=>h (j+1) y d' (by simpa using hy) (by simpa using hd))
  simp only [sumS,Rows.uptoBulkAll]
  omega
 | [],_::_,hl,_=>by simp at hl
 | _::_,[],hl,_=>by simp at hl
structure TxIs (t:TxD) (n:Nat):Prop where
 lk:inI64 t.lock
 sum:sumS t.ins≤n
 ins:t.ins.length≤n
 outs:t.outs.length≤n
 w:sumW t.outs≤n
 i:∀ x,x∈t.ins→(x.tx.length=32∧Byt x.tx)∧x.secret.length≤n∧Byt x.secret
 o:∀ o,o∈t.outs→CondWf o.cond
 ni:∀ x,x∈t.ins→inI64 x.n∧inI64 x.branch
 am:∀ o,o∈t.outs→inI64 o.amount
theorem rd_tx_of {tT tI tA tB:TypeId} {fs:Array Field} (hT:prog.underlying tT=some (.struct fs)) (hfs:fs.toList.map (fun f=>(f.type,f.offset))=[(tI,0),(tA,1),(tB,2)]) (hI:prog.underlying tI=some (.int .i64))
  (hA:prog.underlying tA=some (.slice 80)) (hB:prog.underlying tB=some (.slice 82)) (cT:prog.cellsOf tT=3) (cI:prog.cellsOf tI=1) (cA:prog.cellsOf tA=1) (cB:prog.cellsOf tB=1) :
  RdT enc prog w sp held CC tT fun sl d=>∃ t:TxD,sl=txRSL t∧TxIs t (Rows.uptoBulk d):=by
 match hl:fs.toList,hfs with
 | [f1,f2,f3],hfs=>
  simp only [List.map_cons,List.map_nil,List.cons.injEq,Prod.mk.injEq,and_true] at hfs
  obtain ⟨⟨t1,o1⟩,⟨t2,o2⟩,t3,o3⟩:=hfs
  refine RdT.mono (rd_struct hT (by
   rw [hl]
   exact rd_fs_cons o1 (by rw [t1]; exact rd_int hI) (rd_fs_cons (by rw [t1,cI,o2]) (by rw [t2]; exact rd_seq (u:=80) (G:=fun x d=>GIn (H:=H) x d) hA cells117 (by decide) rd_tin)
    (rd_fs_cons (by rw [t1,t2,cI,cA,o3]) (by rw [t3]; exact rd_seq (u:=82) (G:=fun x d=>GOut (H:=H) x d) hB cells79 (by decide) rd_tout) (rd_fs_nil (by rw [t1,t2,t3,cI,cA,cB,cT]; omega)))))) ?_
  rintro sl d ⟨ds,rfl,s1,s2,d1,ds1,rfl,rfl,⟨n,rfl,h9⟩,s3,s4,d2,ds2,rfl,rfl,⟨xs,rfl,h1,h2⟩,s5,s6,d3,ds3,rfl,rfl,⟨os,rfl,h3,h4⟩,rfl,rfl⟩
  have g1:=delems_le d2
  have g2:=delems_le d3
  have g3:=delems_all d2
  have g4:=delems_all d3
  have g5:=sumW_le (os:=os) h3 h4
  have hb:Rows.uptoBulk d2+Rows.uptoBulk d3≤Rows.uptoBulk (.agg [d1,d2,d3]):=by
   simp only [Rows.uptoBulk,Rows.uptoBulkAll]
   omega
  have g6:=sumS_le (xs:=xs) h1 h2
  refine ⟨TxD.mk n xs os,rfl,⟨wf_i64 h9,?_,?_,?_,?_,fun x hx=>?_,fun o ho=>?_,fun x hx=>?_,fun o ho=>?_⟩⟩
  ·show sumS xs≤_
   omega
  ·have:xs.length=(delems d2).length:=h1
   show xs.length≤_
   omega
  ·have:os.length=(delems d3).length:=h3
   show os.length≤_
   omega
  ·show sumW os≤_
   omega
  ·obtain ⟨j,hj⟩:=List.getElem?_of_mem hx
   have hl2:j<(delems d2).length:=by
    have:=(List.getElem?_eq_some_iff.1 hj).1
    rw [← h1]; exact this
   have hd:=List.getElem?_eq_getElem hl2
   have h5:=h2 j x _ hj hd
   have h6:=bulk_mem (List.mem_of_getElem? hd)
   exact ⟨h5.tx,by have:=h5.sec; omega,h5.bytes⟩
  ·obtain ⟨j,hj⟩:=List.getElem?_of_mem ho
   have hl2:j<(delems d3).length:=by
    have:=(List.getElem?_eq_some_iff.1 hj).1
    rw [← h3]; exact this
   exact (h4 j o _ hj (List.getElem?_eq_getElem hl2)).wf
  ·obtain ⟨j,hj⟩:=List.getElem?_of_mem hx
   have hl2:j<(delems d2).length:=by
    have:=(List.getElem?_eq_some_iff.1 hj).1
    rw [← h1]; exact this
   have h5:=h2 j x _ hj (List.getElem?_eq_getElem hl2)
   exact ⟨h5.n,h5.br⟩
  ·obtain ⟨j,hj⟩:=List.getElem?_of_mem ho
   have hl2:j<(delems d3).length:=by
    have:=(List.getElem?_eq_some_iff.1 hj).1
    rw [← h3]; exact this
   exact (h4 j o _ hj (List.getElem?_eq_getElem hl2)).am
 | [],hfs=>simp at hfs
 | [_],hfs=>simp at hfs
 | [_,_],hfs=>simp at hfs
 | _::_::_::_::_,hfs=>simp at hfs
theorem cells63:prog.cellsOf 25=3:=by kernel_rfl
theorem cells60:prog.cellsOf 22=1:=by kernel_rfl
theorem cells61:prog.cellsOf 23=1:=by kernel_rfl
theorem rd_tx:RdT enc prog w sp held CC 25 fun sl d=>∃ t:TxD,sl=txRSL t∧TxIs t (Rows.uptoBulk d):=
 rd_tx_of underlying25 rfl underlying3 underlying22 underlying23 cells63 cells3 cells60 cells61
end
theorem TxIs.small {t:TxD} {n:Nat} (h:TxIs t n) (hn:n≤1048576):Small t where
 n:=Nat.le_trans h.ins (by omega)
 m:=Nat.le_trans h.outs (by omega)
 s:=fun x hx=>Nat.le_trans (h.i x hx).2.1 (by omega)
 w:=Nat.le_trans h.w (by omega)
theorem TxIs.ok {t:TxD} {n:Nat} (h:TxIs t n) (hn:n≤1048576):TxOk t where
 n:=Nat.le_trans h.ins (by omega)
 m:=Nat.le_trans h.outs (by omega)
 w:=Nat.le_trans h.w (by omega)
 tx:=fun x hx=>(h.i x hx).1
 locks:=fun o ho=>⟨fun b hb=>(h.o o ho b hb).lock,fun b hb y hy=>wf8 ((h.o o ho b hb).bytes y hy)⟩
end Go.Proofs.YtcglahfmnoghjaaGreatDoor

/-! Bytes read back: what is said of the reader. Conditions: none. -/
namespace Go.Proofs.YtcglahfmnoghjaaGreatDoor
open Go Go.Eng Go.Proofs.Tryz
/-- A reader: its bytes, where it stands, its error. -/
structure Rd where
 b:List Int
 i:Int
 e:Int
structure Rd.Ok (r:Rd):Prop where
 byt:∀ y,y∈r.b→0≤y∧y<256
 lo:0≤r.i
 hi:r.i≤r.b.length
 len:r.b.length≤1000000000000
def rcell (r:Rd):SO AA := .cells 156 (.cell (.rints .u8 r.b) (.cell (.int .i64 r.i) (.cell (.err 111 r.e) .nil)))
def asE:SV AA→Option Int
 | .err _ n=>some n
 | .val .nilIface=>some 0
 | .iface _ s=>asI s
 | _=>none
def rdOf (sh:List (SO AA)):SV AA→Option Rd
 | .ptr i _=>match nth sh i with
  | some (.cells _ (.cell b (.cell n (.cell e .nil))))=>match gI .u8 sh b,asI n,asE e with
   | some b,some n,some e=>some ⟨b,n,e⟩
   | _,_,_=>none
  | _=>none
 | _=>none
def rdGet (args:List (SV AA)) (sh:List (SO AA)):Option Rd:=match args with
 | [r]=>rdOf sh r
 | _=>none
def Rd.left (r:Rd):List Int:=r.b.drop r.i.toNat
def Rd.fail (r:Rd) (n:Int):Rd:=⟨r.b,r.i,if r.e=0 then n else r.e⟩
def offLS:LS AA where
 X:=Rd
 pre:=fun _=>True
 args:=fun _=>[.ptr 0 0]
 hin:=fun r=>[rcell r]
 res:=fun r=>[.sb 0 (decide (r.e≠0))]
 hout:=fun r=>[rcell r]
def L120:List (Nat×SpecT AA):=(95,tLent offLS rdGet)::L74
noncomputable def F120:Eng AA:=EF prog L120
theorem F120_eq:F120=EF prog L120:=by
 unfold F120
 rfl
noncomputable def F74:Eng AA:=EF prog L74
theorem F74_eq:F74=EF prog L74:=by
 unfold F74
 rfl
def restLS:LS AA where
 X:=Rd
 pre:=Rd.Ok
 args:=fun _=>[.ptr 0 0]
 hin:=fun r=>[rcell r]
 res:=fun r=>[.rints .u8 r.left]
 hout:=fun r=>[rcell r]
def L121:List (Nat×SpecT AA):=(97,tLent restLS rdGet)::L120
noncomputable def F121:Eng AA:=EF prog L121
theorem F121_eq:F121=EF prog L121:=by
 unfold F121
 rfl
structure RdE where
 r:Rd
 n:Int
def rdeGet (args:List (SV AA)) (sh:List (SO AA)):Option RdE:=match args with
 | [r,n]=>match rdOf sh r,asE n with
  | some r,some n=>some ⟨r,n⟩
  | _,_=>none
 | _=>none
def failLS:LS AA where
 X:=RdE
 pre:=fun _=>True
 args:=fun x=>[.ptr 0 0,.err 111 x.n]
 hin:=fun x=>[rcell x.r]
 res:=fun _=>[]
 hout:=fun x=>[rcell (x.r.fail x.n)]
def L122:List (Nat×SpecT AA):=(98,tLent failLS rdeGet)::L121
noncomputable def F122:Eng AA:=EF prog L122
theorem F122_eq:F122=EF prog L122:=by
 unfold F122
 rfl
/-- So many bytes, the highest first. -/
def bigE (l:List Int):Int:=l.foldl (fun a b=>a*256+b) 0
/-- What is wrong with a number's digits. -/
def lowE (s:List Int) (n:Int):Int:=if (s.length:Int)<n then 12 else if n>0∧s.head?=some 0 then 3 else 0
structure LowX where
 r:Rd
 n:Int
structure LowX.Ok (x:LowX):Prop where
 r:x.r.Ok
 more:x.r.i<x.r.b.length
 lo:0≤x.n
 hi:x.n≤8
def lowN2 (s:List Int) (n:Int):Int:=if lowE s n=0 then bigE (s.take n.toNat) else 0
def lowLS:LS AA where
 X:=LowX
 pre:=LowX.Ok
 args:=fun x=>[.ptr 0 0,.int .i64 x.n,.lit .u8 0]
 hin:=fun x=>[rcell x.r]
 res:=fun x=>[.int .u64 (lowN2 x.r.left.tail x.n),.err 111 (lowE x.r.left.tail x.n)]
 hout:=fun x=>[rcell x.r]
def lowGet (args:List (SV AA)) (sh:List (SO AA)):Option LowX:=match args with
 | [r,n,_]=>match rdOf sh r,asI n with
  | some r,some n=>some ⟨r,n⟩
  | _,_=>none
 | _=>none
def lowAnn (x:LowX):Anns AA:=fun _ _ _=>some {
 X:=Nat
 inv:=fun k=>(k:Int)≤x.n
 meas:=fun k=>x.n.toNat-k
 slots:=fun k=>[(34,.int .i64 k),(9,.int .u64 (bigE (x.r.left.tail.take k)))]
 heap:=fun _=>[] }
def L123:List (Nat×SpecT AA):=(126,tLent lowLS lowGet)::L122
noncomputable def F123:Eng AA:=EF prog L123
theorem F123_eq:F123=EF prog L123:=by
 unfold F123
 rfl
/-- What is wrong with a number; the number; how many bytes it has. -/
def numE (l:List Int) (most:Int):Int:=match l with
 | []=>12
 | c::s=>if c>8 then 3 else if lowE s c≠0 then lowE s c else if bigE (s.take c.toNat)>most then 4 else 0
def numV (l:List Int):Int:=match l with
 | []=>0
 | c::s=>bigE (s.take c.toNat)
def numW (l:List Int):Int:=match l with
 | []=>0
 | c::_=>1+c
structure RdN where
 r:Rd
 n:Int
structure RdN.Ok (x:RdN):Prop where
 r:x.r.Ok
 lo:0≤x.n
def numberLS:LS AA where
 X:=RdN
 pre:=RdN.Ok
 args:=fun x=>[.ptr 0 0,.int .u64 x.n]
 hin:=fun x=>[rcell x.r]
 res:=fun x=>[.int .u64 (if numE x.r.left x.n=0 then numV x.r.left else 0),.int .i64 (if numE x.r.left x.n=0 then numW x.r.left else 0),.sb 0 (decide (numE x.r.left x.n=0))]
 hout:=fun x=>[rcell (if numE x.r.left x.n=0 then x.r else x.r.fail (numE x.r.left x.n))]
def rdnGet (args:List (SV AA)) (sh:List (SO AA)):Option RdN:=match args with
 | [r,n]=>match rdOf sh r,asU n with
  | some r,some n=>some ⟨r,n⟩
  | _,_=>none
 | _=>none
def L124:List (Nat×SpecT AA):=(96,tLent numberLS rdnGet)::L123
noncomputable def F124:Eng AA:=EF prog L124
theorem F124_eq:F124=EF prog L124:=by
 unfold F124
 rfl
def uintR (r:Rd) (most:Int):Int×Rd:=if r.e≠0 then (0,r) else if numE r.left most≠0 then (0,⟨r.b,r.i,numE r.left most⟩) else (numV r.left,⟨r.b,r.i+numW r.left,0⟩)
def rUintLS2:LS AA where
 X:=RdN
 pre:=RdN.Ok
 args:=fun x=>[.ptr 0 0,.int .u64 x.n]
 hin:=fun x=>[rcell x.r]
 res:=fun x=>[.int .u64 (uintR x.r x.n).1]
 hout:=fun x=>[rcell (uintR x.r x.n).2]
def L125:List (Nat×SpecT AA):=(50,tLent rUintLS2 rdnGet)::L124
noncomputable def F125:Eng AA:=EF prog L125
theorem F125_eq:F125=EF prog L125:=by
 unfold F125
 rfl
def countR (r:Rd) (most:Int):Int×Rd:=if r.e≠0 then (0,r) else if numE r.left most≠0 then (0,⟨r.b,r.i,numE r.left most⟩)
 else if numV r.left>r.left.length-numW r.left then (0,⟨r.b,r.i,2⟩) else (numV r.left,⟨r.b,r.i+numW r.left,0⟩)
def rdiGet (args:List (SV AA)) (sh:List (SO AA)):Option RdN:=match args with
 | [r,n]=>match rdOf sh r,asI n with
  | some r,some n=>some ⟨r,n⟩
  | _,_=>none
 | _=>none
structure RdN.Few (x:RdN):Prop extends RdN.Ok x where
 hi:x.n≤1000000
def countLS:LS AA where
 X:=RdN
 pre:=RdN.Few
 args:=fun x=>[.ptr 0 0,.int .i64 x.n]
 hin:=fun x=>[rcell x.r]
 res:=fun x=>[.int .i64 (countR x.r x.n).1]
 hout:=fun x=>[rcell (countR x.r x.n).2]
def L126:List (Nat×SpecT AA):=(49,tLent countLS rdiGet)::L125
noncomputable def F126:Eng AA:=EF prog L126
theorem F126_eq:F126=EF prog L126:=by
 unfold F126
 rfl
def hashR (r:Rd):List Int×Rd:=if r.e≠0 then (List.replicate 32 0,r) else if r.left.length<32 then (List.replicate 32 0,⟨r.b,r.i,12⟩) else (r.left.take 32,⟨r.b,r.i+32,0⟩)
def rHashLS2:LS AA where
 X:=Rd
 pre:=Rd.Ok
 args:=fun _=>[.ptr 0 0]
 hin:=fun r=>[rcell r]
 res:=fun r=>[hashV (hashR r).1]
 hout:=fun r=>[rcell (hashR r).2]
def L127:List (Nat×SpecT AA):=(51,tLent rHashLS2 rdGet)::L126
noncomputable def F127:Eng AA:=EF prog L127
theorem F127_eq:F127=EF prog L127:=by
 unfold F127
 rfl
def doneR (r:Rd):Int:=if r.e≠0 then r.e else if r.i<r.b.length then 3 else 0
def rDoneLS:LS AA where
 X:=Rd
 pre:=fun _=>True
 args:=fun _=>[.ptr 0 0]
 hin:=fun r=>[rcell r]
 res:=fun r=>[.err 111 (doneR r)]
 hout:=fun r=>[rcell r]
def L128:List (Nat×SpecT AA):=(52,tLent rDoneLS rdGet)::L127
noncomputable def F128:Eng AA:=EF prog L128
theorem F128_eq:F128=EF prog L128:=by
 unfold F128
 rfl
def readLS:LS AA where
 X:=List Int
 pre:=fun _=>True
 args:=fun b=>[.rints .u8 b]
 hin:=fun _=>[]
 res:=fun _=>[.ptr 0 0]
 hout:=fun b=>[rcell ⟨b,0,0⟩]
def bytesGet1 (args:List (SV AA)) (sh:List (SO AA)):Option (List Int):=match args with
 | [s]=>gI .u8 sh s
 | _=>none
def L129:List (Nat×SpecT AA):=(48,tLent readLS bytesGet1)::L128
noncomputable def F129:Eng AA:=EF prog L129
theorem F129_eq:F129=EF prog L129:=by
 unfold F129
 rfl
end Go.Proofs.YtcglahfmnoghjaaGreatDoor

/-! A condition made of bytes, in plain words: what its own bytes are read as. Conditions: none. -/
namespace Go.Proofs.YtcglahfmnoghjaaGreatDoor
open Go Go.Eng Go.Proofs.Tryz
def dKeys:Nat→Rd→List Int×Rd
 | 0,r=>([],r)
 | k+1,r=>((dKeys k r).1++[(uintR (dKeys k r).2 16).1],(uintR (dKeys k r).2 16).2)
def dK (r:Rd):List Int×Rd:=dKeys (countR r 16).1.toNat (countR r 16).2
def dH (r:Rd):List Int×Rd:=hashR (dK r).2
def dA (r:Rd):Int×Rd:=uintR (dH r).2 1099511627776
def dO (r:Rd):Int×Rd:=uintR (dA r).2 65536
def dBr (r:Rd):Br×Rd:=(⟨(dK r).1,(dH r).1,(dA r).1,(dO r).1⟩,(dO r).2)
def dBrs:Nat→Rd→List Br×Rd
 | 0,r=>([],r)
 | k+1,r=>((dBrs k r).1++[(dBr (dBrs k r).2).1],(dBr (dBrs k r).2).2)
structure At (r:Rd) (l:List Int):Prop where
 ok:r.Ok
 e:r.e=0
 left:r.left=l
theorem left_len (r:Rd) (h:r.Ok):(r.left.length:Int)=r.b.length-r.i:=by
 unfold Rd.left
 have:=h.lo
 have:=h.hi
 rw [List.length_drop]
 omega
theorem At.step {r:Rd} {a l:List Int} (h:At r (a++l)):At ⟨r.b,r.i+(a.length:Int),0⟩ l:=by
 have h1:=left_len r h.ok
 rw [h.left,List.length_append] at h1
 have h2:=h.ok.lo
 refine ⟨⟨h.ok.byt,?_,?_,h.ok.len⟩,rfl,?_⟩
 ·show 0≤r.i+(a.length:Int); omega
 ·show r.i+(a.length:Int)≤r.b.length; omega
 ·show List.drop (r.i+(a.length:Int)).toNat r.b=l
  have h3:=h.left
  unfold Rd.left at h3
  rw [show (r.i+(a.length:Int)).toNat=r.i.toNat+a.length by omega,← List.drop_drop,h3,List.drop_left]
theorem uint_dead {r:Rd} {m:Int} (h:r.e≠0):(uintR r m).2=r:=by unfold uintR; rw [if_pos h]
theorem count_dead {r:Rd} {m:Int} (h:r.e≠0):countR r m=(0,r):=by unfold countR; rw [if_pos h]
theorem hash_dead {r:Rd} (h:r.e≠0):(hashR r).2=r:=by unfold hashR; rw [if_pos h]
theorem keys_dead {r:Rd} (h:r.e≠0):∀ k,(dKeys k r).2=r
 | 0=>rfl
 | k+1=>by
  show (uintR (dKeys k r).2 16).2=r
  rw [keys_dead h k,uint_dead h]
theorem br_dead3 {r:Rd} (h:(dA r).2.e≠0):(dBr r).2.e≠0:=by
 show (uintR (dA r).2 65536).2.e≠0
 rw [uint_dead h]; exact h
theorem br_dead2 {r:Rd} (h:(dK r).2.e≠0):(dBr r).2.e≠0:=by
 refine br_dead3 ?_
 show (uintR (hashR (dK r).2).2 1099511627776).2.e≠0
 rw [hash_dead h,uint_dead h]; exact h
theorem br_dead1 {r:Rd} (h:(countR r 16).2.e≠0):(dBr r).2.e≠0:=by
 refine br_dead2 ?_
 show (dKeys _ (countR r 16).2).2.e≠0
 rw [keys_dead h]; exact h
theorem br_dead {r:Rd} (h:r.e≠0):(dBr r).2.e≠0:=br_dead1 (by rw [count_dead h]; exact h)
end Go.Proofs.YtcglahfmnoghjaaGreatDoor

/-! The reader's walks. Conditions: none. -/
namespace Go.Proofs.YtcglahfmnoghjaaGreatDoor
open Go Go.Eng Go.Proofs.Tryz
theorem or_byte {a c:Int} (h1:0≤a) (h2:a<72057594037927936) (h3:0≤c) (h4:c<256):bitop .or .u64 (shl .u64 a 8) (wr .u64 (bitop .xor .u8 c 0))=a*256+c:=by
 rw [xor_zero h3 h4]
 obtain ⟨a,rfl⟩:=Int.eq_ofNat_of_zero_le h1
 obtain ⟨c,rfl⟩:=Int.eq_ofNat_of_zero_le h3
 have e1:shl .u64 (a:Int) 8=((2 ^ 8*a:Nat):Int):=by
  show wr .u64 ((a:Int)*256)=_
  rw [wr64u]; omega
 have e2:wr .u64 (c:Int)=(c:Int):=by rw [wr64u]; omega
 rw [e1,e2]
 show IntKind.u64.wrap (BitVec.ofInt 64 ((2 ^ 8*a:Nat):Int) ||| BitVec.ofInt 64 (c:Int)).toNat=_
 rw [BitVec.toNat_or]
 have h5:(BitVec.ofInt 64 ((2 ^ 8*a:Nat):Int)).toNat=2 ^ 8*a:=by rw [BitVec.toNat_ofInt]; omega
 have h6:(BitVec.ofInt 64 (c:Int)).toNat=c:=by rw [BitVec.toNat_ofInt]; omega
 rw [h5,h6,← Nat.two_pow_add_eq_or_of_lt (by omega) a]
 show wr .u64 ((2 ^ 8*a+c:Nat):Int)=_
 rw [wr64u]; omega
theorem bigE_up {s:List Int} {k:Nat} (h:k<s.length):bigE (s.take (k+1))=bigE (s.take k)*256+s.getD k 0:=by
 rw [List.take_add_one,List.getElem?_eq_getElem h,List.getD_eq_getElem?_getD,List.getElem?_eq_getElem h]
 unfold bigE
 rw [List.foldl_append]
 rfl
theorem byte_getD {b:List Int} (h:∀ y,y∈b→0≤y∧y<256) (i:Nat):0≤b.getD i 0∧b.getD i 0<256:=by
 rw [List.getD_eq_getElem?_getD]
 cases e:b[i]? with
 | none=>simp
 | some y=>exact h y (List.mem_of_getElem? e)
theorem bigE_lt {s:List Int} (h:∀ y,y∈s→0≤y∧y<256):∀ k,k≤s.length→0≤bigE (s.take k)∧bigE (s.take k)<((256 ^ k:Nat):Int)
 | 0,_=>by simp [bigE]
 | k+1,hk=>by
  have ih:=bigE_lt h k (by omega)
  have h1:=byte_getD h k
  rw [bigE_up (by omega),Nat.pow_succ]
  omega
theorem left_byt {r:Rd} (h:r.Ok):∀ y,y∈r.left→0≤y∧y<256:=fun y hy=>h.byt y (List.mem_of_mem_drop hy)
theorem tail_byt {s:List Int} (h:∀ y,y∈s→0≤y∧y<256):∀ y,y∈s.tail→0≤y∧y<256:=fun y hy=>h y (List.mem_of_mem_tail hy)
def offVC:Prop:=∀ (x:Rd),True→decide (x.e≠(0:Int))=!x.e==(0:Int)∧((x.b=x.b∧x.i=x.i∧x.e=x.e∧True)∧True)∧True
theorem off_eq:offVC=fnS F74 f95 (bodyOf f95) offLS noAnn:=by kernel_rfl
theorem off_vc:offVC:=by
 rintro ⟨b,i,e⟩ _
 refine ⟨?_,⟨⟨rfl,rfl,rfl,trivial⟩,trivial⟩,trivial⟩
 by_cases h:e=0<;>simp [h]
theorem off_ok:Fits F74 f95 (bodyOf f95) offLS noAnn:=by
 constructor
 rw [← off_eq]
 exact off_vc
theorem f107_has:Has prog 95 f95 (bodyOf f95):=⟨by kernel_rfl,by kernel_rfl,by kernel_rfl⟩
theorem known120:Known prog L120:=by
 unfold L120
 exact known74.lent mixed f107_has F74_eq off_ok (fun _ _=>Nat.le_refl _) (fun h=>by cases h)
def restVC:Prop:=∀ (x:Rd),x.Ok→(0:Int)≤x.i∧x.i≤(x.b.length:Int)∧(x.b.length:Int)≤(x.b.length:Int)∧x.left=List.drop x.i.toNat (List.take
 (x.b.length:Int).toNat x.b)∧((x.b=x.b∧x.i=x.i∧x.e=x.e∧True)∧True)∧True
theorem rest_eq:restVC=fnS F120 f97 (bodyOf f97) restLS noAnn:=by kernel_rfl
theorem rest_vc:restVC:=by
 rintro ⟨b,i,e⟩ hr
 refine ⟨hr.lo,hr.hi,by simp,?_,⟨⟨rfl,rfl,rfl,trivial⟩,trivial⟩,trivial⟩
 simp only [Int.toNat_natCast,List.take_length]
 rfl
theorem rest_ok:Fits F120 f97 (bodyOf f97) restLS noAnn:=by
 constructor
 rw [← rest_eq]
 exact rest_vc
theorem f109_has:Has prog 97 f97 (bodyOf f97):=⟨by kernel_rfl,by kernel_rfl,by kernel_rfl⟩
theorem known121:Known prog L121:=by
 unfold L121
 exact known120.lent mixed f109_has F120_eq rest_ok (fun _ _=>Nat.le_refl _) (fun h=>by cases h)
def failVC:Prop:=∀ (x:RdE),True→((x.r.e==(0:Int))=true→True∧((x.r.b=x.r.b∧x.r.i=x.r.i∧(if x.r.e=(0:Int) then x.n else x.r.e)=x.n∧True) ∧
 True)∧True)∧((x.r.e==(0:Int))=false→True∧((x.r.b=x.r.b∧x.r.i=x.r.i∧(if x.r.e=(0:Int) then x.n else x.r.e)=x.r.e∧True) ∧
 True)∧True)
theorem fail_eq:failVC=fnS F121 f98 (bodyOf f98) failLS noAnn:=by kernel_rfl
theorem fail_vc:failVC:=by
 rintro ⟨⟨b,i,e⟩,n⟩ _
 refine ⟨fun h=>⟨trivial,⟨⟨rfl,rfl,?_,trivial⟩,trivial⟩,trivial⟩,fun h=>⟨trivial,⟨⟨rfl,rfl,?_,trivial⟩,trivial⟩,trivial⟩⟩
 ·rw [if_pos (by simpa using h)]
 ·rw [if_neg (by simpa using h)]
theorem fail_ok:Fits F121 f98 (bodyOf f98) failLS noAnn:=by
 constructor
 rw [← fail_eq]
 exact fail_vc
theorem f110_has:Has prog 98 f98 (bodyOf f98):=⟨by kernel_rfl,by kernel_rfl,by kernel_rfl⟩
theorem known122:Known prog L122:=by
 unfold L122
 exact known121.lent mixed f110_has F121_eq fail_ok (fun _ _=>Nat.le_refl _) (fun h=>by cases h)
def lowVC:Prop:=∀ (x:LowX),x.Ok→True∧((x.r.b=x.r.b∧x.r.i=x.r.i∧x.r.e=x.r.e∧True)∧True)∧(Rd.mk x.r.b x.r.i x.r.e).Ok∧(0:Int)≤(1:Int)∧(1
 : Int)≤(↑(Rd.mk x.r.b x.r.i x.r.e).left.length:Int)∧(↑(Rd.mk x.r.b x.r.i x.r.e).left.length:Int)≤(↑(Rd.mk x.r.b x.r.i x.r.e).left.length :
 Int)∧((↑(List.drop (Int.toNat (1:Int)) (List.take (↑(Rd.mk x.r.b x.r.i x.r.e).left.length:Int).toNat (Rd.mk x.r.b x.r.i x.r.e).left)).length :
 Int)≤(9223372036854775807:Int)→(decide ((↑(List.drop (Int.toNat (1:Int)) (List.take (↑(Rd.mk x.r.b x.r.i x.r.e).left.length:Int).toNat (Rd.mk
 x.r.b x.r.i x.r.e).left)).length:Int)<x.n)=true→(lowN2 x.r.left.tail x.n=(0:Int)∧lowE x.r.left.tail x.n=(12:Int)∧(12:Int)≠(0 :
 Int))∧((x.r.b=x.r.b∧x.r.i=x.r.i∧x.r.e=x.r.e∧True)∧True)∧True)∧(decide ((↑(List.drop (Int.toNat (1:Int)) (List.take (↑(Rd.mk x.r.b
 x.r.i x.r.e).left.length:Int).toNat (Rd.mk x.r.b x.r.i x.r.e).left)).length:Int)<x.n)=false→(decide (x.n>(0:Int))=true→(0:Int)≤(0
 : Int)∧(0:Int)<(↑(List.drop (Int.toNat (1:Int)) (List.take (↑(Rd.mk x.r.b x.r.i x.r.e).left.length:Int).toNat (Rd.mk x.r.b x.r.i
 x.r.e).left)).length:Int)∧Int.toNat (0:Int)<(List.drop (Int.toNat (1:Int)) (List.take (↑(Rd.mk x.r.b x.r.i x.r.e).left.length:Int).toNat
 (Rd.mk x.r.b x.r.i x.r.e).left)).length∧(((List.drop (Int.toNat (1:Int)) (List.take (↑(Rd.mk x.r.b x.r.i x.r.e).left.length:Int).toNat (Rd.mk
 x.r.b x.r.i x.r.e).left)).getD (Int.toNat (0:Int)) (0:Int)==(0:Int))=true→(lowN2 x.r.left.tail x.n=(0:Int)∧lowE x.r.left.tail x.n =
 (3:Int)∧(3:Int)≠(0:Int))∧((x.r.b=x.r.b∧x.r.i=x.r.i∧x.r.e=x.r.e∧True)∧True)∧True)∧(((List.drop (Int.toNat (1:Int))
 (List.take (↑(Rd.mk x.r.b x.r.i x.r.e).left.length:Int).toNat (Rd.mk x.r.b x.r.i x.r.e).left)).getD (Int.toNat (0:Int)) (0:Int)==(0:Int)) =
 false→(0:Int)≤(0:Int)∧(0:Int)≤x.n∧x.n≤(↑(List.drop (Int.toNat (1:Int)) (List.take (↑(Rd.mk x.r.b x.r.i x.r.e).left.length :
 Int).toNat (Rd.mk x.r.b x.r.i x.r.e).left)).length:Int)∧((↑(List.drop (Int.toNat (0:Int)) (List.take x.n.toNat (List.drop (Int.toNat (1:Int))
 (List.take (↑(Rd.mk x.r.b x.r.i x.r.e).left.length:Int).toNat (Rd.mk x.r.b x.r.i x.r.e).left)))).length:Int)≤(9223372036854775807:Int)→(∃ (x_1:Nat),(x.n-(x_1:Int)).NonNeg∧((x_1:Int)=(0:Int)∧bigE (List.take x_1 x.r.left.tail)=(0:Int))∧((x.r.b=x.r.b∧x.r.i=x.r.i ∧
 x.r.e=x.r.e∧True)∧True)∧True)∧∀ (x_1:Nat),(x.n-(x_1:Int)).NonNeg→(decide ((x_1:Int)<(↑(List.drop (Int.toNat (0:Int))
 (List.take x.n.toNat (List.drop (Int.toNat (1:Int)) (List.take (↑(Rd.mk x.r.b x.r.i x.r.e).left.length:Int).toNat (Rd.mk x.r.b x.r.i
 x.r.e).left)))).length:Int))=true→(0:Int)≤(x_1:Int)∧(x_1:Int)<(↑(List.drop (Int.toNat (0:Int)) (List.take x.n.toNat (List.drop
 (Int.toNat (1:Int)) (List.take (↑(Rd.mk x.r.b x.r.i x.r.e).left.length:Int).toNat (Rd.mk x.r.b x.r.i x.r.e).left)))).length:Int)∧(↑x_1 :
 Int).toNat<(List.drop (Int.toNat (0:Int)) (List.take x.n.toNat (List.drop (Int.toNat (1:Int)) (List.take (↑(Rd.mk x.r.b x.r.i x.r.e).left.length
 : Int).toNat (Rd.mk x.r.b x.r.i x.r.e).left)))).length∧(0:Int)≤(8:Int)∧inI64 ((x_1:Int)+(1:Int))∧∃ (y:Nat),(x.n-(y:Int)).NonNeg ∧
 x.n.toNat-y<x.n.toNat-x_1∧((y:Int)=(x_1:Int)+(1:Int)∧bigE (List.take y x.r.left.tail)=bitop BinOp.or IntKind.u64 (shl
 IntKind.u64 (bigE (List.take x_1 x.r.left.tail)) (8:Int)) (wr IntKind.u64 (bitop BinOp.xor IntKind.u8 ((List.drop (Int.toNat (0:Int)) (List.take
 x.n.toNat (List.drop (Int.toNat (1:Int)) (List.take (↑(Rd.mk x.r.b x.r.i x.r.e).left.length:Int).toNat (Rd.mk x.r.b x.r.i x.r.e).left)))).getD
 (x_1:Int).toNat (0:Int)) (0:Int))))∧((x.r.b=x.r.b∧x.r.i=x.r.i∧x.r.e=x.r.e∧True)∧True)∧True)∧(decide ((x_1:Int) <
 (↑(List.drop (Int.toNat (0:Int)) (List.take x.n.toNat (List.drop (Int.toNat (1:Int)) (List.take (↑(Rd.mk x.r.b x.r.i x.r.e).left.length :
 Int).toNat (Rd.mk x.r.b x.r.i x.r.e).left)))).length:Int))=false→(lowN2 x.r.left.tail x.n=bigE (List.take x_1 x.r.left.tail)∧lowE
 x.r.left.tail x.n=(0:Int))∧((x.r.b=x.r.b∧x.r.i=x.r.i∧x.r.e=x.r.e∧True)∧True)∧True))))∧(decide (x.n>(0:Int))=false→(0 :
 Int)≤(0:Int)∧(0:Int)≤x.n∧x.n≤(↑(List.drop (Int.toNat (1:Int)) (List.take (↑(Rd.mk x.r.b x.r.i x.r.e).left.length:Int).toNat (Rd.mk
 x.r.b x.r.i x.r.e).left)).length:Int)∧((↑(List.drop (Int.toNat (0:Int)) (List.take x.n.toNat (List.drop (Int.toNat (1:Int)) (List.take (↑(Rd.mk
 x.r.b x.r.i x.r.e).left.length:Int).toNat (Rd.mk x.r.b x.r.i x.r.e).left)))).length:Int)≤(9223372036854775807:Int)→(∃ (x_1:Nat),(x.n-(↑x_1 :
 Int)).NonNeg∧((x_1:Int)=(0:Int)∧bigE (List.take x_1 x.r.left.tail)=(0:Int))∧((x.r.b=x.r.b∧x.r.i=x.r.i∧x.r.e=x.r.e∧True) ∧
 True)∧True)∧∀ (x_1:Nat),(x.n-(x_1:Int)).NonNeg→(decide ((x_1:Int)<(↑(List.drop (Int.toNat (0:Int)) (List.take x.n.toNat (List.drop
 (Int.toNat (1:Int)) (List.take (↑(Rd.mk x.r.b x.r.i x.r.e).left.length:Int).toNat (Rd.mk x.r.b x.r.i x.r.e).left)))).length:Int))=true→(0 :
 Int)≤(x_1:Int)∧(x_1:Int)<(↑(List.drop (Int.toNat (0:Int)) (List.take x.n.toNat (List.drop (Int.toNat (1:Int)) (List.take (↑(Rd.mk x.r.b
 x.r.i x.r.e).left.length:Int).toNat (Rd.mk x.r.b x.r.i x.r.e).left)))).length:Int)∧(x_1:Int).toNat<(List.drop (Int.toNat (0:Int))
 (List.take x.n.toNat (List.drop (Int.toNat (1:Int)) (List.take (↑(Rd.mk x.r.b x.r.i x.r.e).left.length:Int).toNat (Rd.mk x.r.b x.r.i
 x.r.e).left)))).length∧(0:Int)≤(8:Int)∧inI64 ((x_1:Int)+(1:Int))∧∃ (y:Nat),(x.n-(y:Int)).NonNeg∧x.n.toNat-y<x.n.toNat-x_1 ∧
 ((y:Int)=(x_1:Int)+(1:Int)∧bigE (List.take y x.r.left.tail)=bitop BinOp.or IntKind.u64 (shl IntKind.u64 (bigE (List.take x_1
 x.r.left.tail)) (8:Int)) (wr IntKind.u64 (bitop BinOp.xor IntKind.u8 ((List.drop (Int.toNat (0:Int)) (List.take x.n.toNat (List.drop (Int.toNat (1
 : Int)) (List.take (↑(Rd.mk x.r.b x.r.i x.r.e).left.length:Int).toNat (Rd.mk x.r.b x.r.i x.r.e).left)))).getD (x_1:Int).toNat (0:Int)) (0 :
 Int))))∧((x.r.b=x.r.b∧x.r.i=x.r.i∧x.r.e=x.r.e∧True)∧True)∧True)∧(decide ((x_1:Int)<(↑(List.drop (Int.toNat (0:Int))
 (List.take x.n.toNat (List.drop (Int.toNat (1:Int)) (List.take (↑(Rd.mk x.r.b x.r.i x.r.e).left.length:Int).toNat (Rd.mk x.r.b x.r.i
 x.r.e).left)))).length:Int))=false→(lowN2 x.r.left.tail x.n=bigE (List.take x_1 x.r.left.tail)∧lowE x.r.left.tail x.n=(0:Int))∧((x.r.b
 = x.r.b∧x.r.i=x.r.i∧x.r.e=x.r.e∧True)∧True)∧True)))))
theorem low_eq:lowVC=fnS F122 f126 (bodyOf f126) lowLS lowAnn:=by kernel_rfl
theorem low_vc:lowVC:=by
 rintro ⟨⟨b,i,e⟩,n⟩ ⟨hr,more,lo,hi⟩
 have hl:=left_len _ hr
 have hb:=tail_byt (left_byt hr)
 have hlen:=hr.len
 have hlo:=hr.lo
 simp only at hl more lo hi hlen hlo
 have hs:((Rd.mk b i e).left.tail.length:Int)=(Rd.mk b i e).left.length-1:=by rw [List.length_tail]; omega
 have ht:(Int.toNat (1:Int))=1:=rfl
 have h0:(Int.toNat (0:Int))=0:=rfl
 simp only [hr,ht,h0,Int.toNat_natCast,List.take_length,List.drop_one,List.drop_zero,List.length_take,and_self,and_true,true_and,Int.le_refl,decide_eq_true_eq,decide_eq_false_iff_not,ne_eq]
 generalize hS:(Rd.mk b i e).left.tail=s at *
 have step:∀ k:Nat,(k:Int)<n→(n:Int)≤s.length→bigE (s.take (k+1))=bitop .or .u64 (shl .u64 (bigE (s.take k)) 8) (wr .u64 (bitop .xor .u8 ((s.take n.toNat).getD k 0) 0)):=fun k hk hn=>by
  have h1:=bigE_lt hb k (by omega)
  have h2:=byte_getD hb k
  have h3:(256 ^ k:Nat)≤256 ^ 7:=Nat.pow_le_pow_right (by omega) (by omega)
  have h4:(s.take n.toNat).getD k 0=s.getD k 0:=by
   rw [List.getD_eq_getElem?_getD,List.getElem?_take,if_pos (by omega),← List.getD_eq_getElem?_getD]
  rw [h4,bigE_up (by omega),or_byte h1.1 (by omega) h2.1 h2.2]
 have loop:(n:Int)≤s.length→lowE s n=0 →
   (∃ (x_1:Nat),(n-(x_1:Int)).NonNeg∧((x_1:Int)=(0:Int)∧bigE (List.take x_1 s)=(0:Int)))∧∀ (x_1:Nat),(n-(x_1:Int)).NonNeg→((x_1:Int)<((min n.toNat s.length:Nat):Int)→(0:Int)≤(x_1:Int)∧(x_1:Int)<((min n.toNat s.length:Nat):Int)∧x_1<min n.toNat s.length∧(0:Int)≤(8:Int)∧inI64 ((x_1:Int)+(1:Int))∧∃ (y:Nat),(n-(y:Int)).NonNeg∧n.toNat-y<n.toNat-x_1∧((y:Int)=(x_1:Int)+(1:Int)∧bigE (List.take y s)=bitop BinOp.or IntKind.u64 (shl IntKind.u64 (bigE (List.take x_1 s)) (8:Int)) (wr IntKind.u64 (bitop BinOp.xor IntKind.u8 ((List.take n.toNat s).getD x_1 (0:Int)) (0:Int)))))∧(¬((x_1:Int)<((min n.toNat s.length:Nat):Int))→(lowN2 s n=bigE (List.take x_1 s)∧lowE s n=(0:Int))):=fun h1 h2=>by
  refine ⟨⟨0,?_,rfl,rfl⟩,fun k hk=>⟨fun h3=>⟨by omega,by omega,by omega,by omega,by unfold inI64; omega,k+1,?_,by omega,by omega,step k (by omega) h1⟩,fun h3=>⟨?_,h2⟩⟩⟩
  ·show ((0:Nat):Int)≤n
   omega
  ·show ((k+1:Nat):Int)≤n
   omega
  ·have hk:(k:Int)≤n:=hk
   unfold lowN2
   rw [if_pos h2,show n.toNat=k by omega]
 have g:s.getD 0 0=0↔(s=[]∨s.head?=some 0):=by cases s<;>simp
 refine ⟨by omega,by omega,fun _=>⟨fun h=>?_,fun h=>⟨fun h1=>⟨by omega,by omega,fun h2=>?_,fun h2=>⟨lo,by omega,fun _=>loop (by omega) ?_⟩⟩,fun h1=>⟨lo,by omega,fun _=>loop (by omega) ?_⟩⟩⟩⟩
 ·have h2:lowE s n=12:=by unfold lowE; rw [if_pos h]
  exact ⟨by unfold lowN2; rw [h2]; rfl,h2,by omega⟩
 ·have h3:s.head?=some 0:=by
   rcases g.1 (by simpa using h2) with e | e
   ·rw [e] at h
    simp only [List.length_nil] at h
    omega
   ·exact e
  have h2:lowE s n=3:=by unfold lowE; rw [if_neg h,if_pos ⟨h1,h3⟩]
  exact ⟨by unfold lowN2; rw [h2]; rfl,h2,by omega⟩
 ·unfold lowE
  rw [if_neg h,if_neg (fun h3=>by
   have:=g.2 (.inr h3.2)
   rw [this] at h2
   simp at h2)]
 ·unfold lowE
  rw [if_neg h,if_neg (fun h3=>h1 h3.1)]
theorem low_ok:Fits F122 f126 (bodyOf f126) lowLS lowAnn:=by
 constructor
 rw [← low_eq]
 exact low_vc
theorem f129_has:Has prog 126 f126 (bodyOf f126):=⟨by kernel_rfl,by kernel_rfl,by kernel_rfl⟩
theorem known123:Known prog L123:=by
 unfold L123
 exact known122.lent mixed f129_has F122_eq low_ok (fun _ _=>Nat.le_refl _) (fun h=>by cases h)
def numberVC:Prop:=∀ (x:RdN),x.Ok→True∧((x.r.b=x.r.b∧x.r.i=x.r.i∧x.r.e=x.r.e∧True)∧True)∧(Rd.mk x.r.b x.r.i x.r.e).Ok∧((↑(Rd.mk x.r.b x.r.i
 x.r.e).left.length:Int)≤(9223372036854775807:Int)→(((↑(Rd.mk x.r.b x.r.i x.r.e).left.length:Int)==(0:Int))=true→(True∧(12:Int) =
 (12:Int)∧(12:Int)≠(0:Int))∧((x.r.b=x.r.b∧x.r.i=x.r.i∧x.r.e=x.r.e∧True)∧True)∧True∧((if numE x.r.left x.n=(0:Int) then
 numV x.r.left else (0:Int))=(0:Int)∧(if numE x.r.left x.n=(0:Int) then numW x.r.left else (0:Int))=(0:Int)∧decide (numE x.r.left
 x.n=(0:Int))=false)∧(((if numE x.r.left x.n=(0:Int) then x.r else x.r.fail (numE x.r.left x.n)).b=x.r.b∧(if numE x.r.left x.n=(0 :
 Int) then x.r else x.r.fail (numE x.r.left x.n)).i=x.r.i∧((if numE x.r.left x.n=(0:Int) then x.r else x.r.fail (numE x.r.left x.n)).e=if
 x.r.e=(0:Int) then (12:Int) else x.r.e)∧True)∧True)∧True)∧(((↑(Rd.mk x.r.b x.r.i x.r.e).left.length:Int)==(0:Int))=false→(0 :
 Int)≤(0:Int)∧(0:Int)<(↑(Rd.mk x.r.b x.r.i x.r.e).left.length:Int)∧Int.toNat (0:Int)<(Rd.mk x.r.b x.r.i x.r.e).left.length∧(decide
 ((Rd.mk x.r.b x.r.i x.r.e).left.getD (Int.toNat (0:Int)) (0:Int)>(8:Int))=true→(True∧(3:Int)=(3:Int)∧(3:Int)≠(0:Int)) ∧
 ((x.r.b=x.r.b∧x.r.i=x.r.i∧x.r.e=x.r.e∧True)∧True)∧True∧((if numE x.r.left x.n=(0:Int) then numV x.r.left else (0:Int))=(0 :
 Int)∧(if numE x.r.left x.n=(0:Int) then numW x.r.left else (0:Int))=(0:Int)∧decide (numE x.r.left x.n=(0:Int))=false)∧(((if numE
 x.r.left x.n=(0:Int) then x.r else x.r.fail (numE x.r.left x.n)).b=x.r.b∧(if numE x.r.left x.n=(0:Int) then x.r else x.r.fail (numE
 x.r.left x.n)).i=x.r.i∧((if numE x.r.left x.n=(0:Int) then x.r else x.r.fail (numE x.r.left x.n)).e=if x.r.e=(0:Int) then (3:Int) else
 x.r.e)∧True)∧True)∧True)∧(decide ((Rd.mk x.r.b x.r.i x.r.e).left.getD (Int.toNat (0:Int)) (0:Int)>(8:Int))=false→(0:Int)≤(0 :
 Int)∧(0:Int)<(↑(Rd.mk x.r.b x.r.i x.r.e).left.length:Int)∧Int.toNat (0:Int)<(Rd.mk x.r.b x.r.i x.r.e).left.length∧(True∧wr
 IntKind.i64 ((Rd.mk x.r.b x.r.i x.r.e).left.getD (Int.toNat (0:Int)) (0:Int))=wr IntKind.i64 ((Rd.mk x.r.b x.r.i x.r.e).left.getD (Int.toNat (0 :
 Int)) (0:Int))∧(0:Int)=(0:Int))∧((x.r.b=x.r.b∧x.r.i=x.r.i∧x.r.e=x.r.e∧True)∧True)∧(LowX.mk (Rd.mk x.r.b x.r.i x.r.e) (wr
 IntKind.i64 ((Rd.mk x.r.b x.r.i x.r.e).left.getD (Int.toNat (0:Int)) (0:Int)))).Ok∧((lowE (Rd.mk x.r.b x.r.i x.r.e).left.tail (wr IntKind.i64
 ((Rd.mk x.r.b x.r.i x.r.e).left.getD (Int.toNat (0:Int)) (0:Int)))==(0:Int))=true→(decide (lowN2 (Rd.mk x.r.b x.r.i x.r.e).left.tail (wr
 IntKind.i64 ((Rd.mk x.r.b x.r.i x.r.e).left.getD (Int.toNat (0:Int)) (0:Int)))>x.n)=true→((!false)=true→(True∧(4:Int)=(4:Int) ∧
 (4:Int)≠(0:Int))∧((x.r.b=x.r.b∧x.r.i=x.r.i∧x.r.e=x.r.e∧True)∧True)∧True∧((if numE x.r.left x.n=(0:Int) then numV x.r.left
 else (0:Int))=(0:Int)∧(if numE x.r.left x.n=(0:Int) then numW x.r.left else (0:Int))=(0:Int)∧decide (numE x.r.left x.n=(0:Int))
 = false)∧(((if numE x.r.left x.n=(0:Int) then x.r else x.r.fail (numE x.r.left x.n)).b=x.r.b∧(if numE x.r.left x.n=(0:Int) then x.r else
 x.r.fail (numE x.r.left x.n)).i=x.r.i∧((if numE x.r.left x.n=(0:Int) then x.r else x.r.fail (numE x.r.left x.n)).e=if x.r.e=(0:Int) then
 (4:Int) else x.r.e)∧True)∧True)∧True)∧((!false)=false→(0:Int)≤(0:Int)∧(0:Int)<(↑(Rd.mk x.r.b x.r.i x.r.e).left.length:Int)
 ∧ Int.toNat (0:Int)<(Rd.mk x.r.b x.r.i x.r.e).left.length∧inI64 ((1:Int)+wr IntKind.i64 ((Rd.mk x.r.b x.r.i x.r.e).left.getD (Int.toNat (0 :
 Int)) (0:Int)))∧((if numE x.r.left x.n=(0:Int) then numV x.r.left else (0:Int))=lowN2 (Rd.mk x.r.b x.r.i x.r.e).left.tail (wr IntKind.i64
 ((Rd.mk x.r.b x.r.i x.r.e).left.getD (Int.toNat (0:Int)) (0:Int)))∧(if numE x.r.left x.n=(0:Int) then numW x.r.left else (0:Int))=(1 :
 Int)+wr IntKind.i64 ((Rd.mk x.r.b x.r.i x.r.e).left.getD (Int.toNat (0:Int)) (0:Int))∧decide (numE x.r.left x.n=(0:Int))=true)∧(((if
 numE x.r.left x.n=(0:Int) then x.r else x.r.fail (numE x.r.left x.n)).b=x.r.b∧(if numE x.r.left x.n=(0:Int) then x.r else x.r.fail (numE
 x.r.left x.n)).i=x.r.i∧(if numE x.r.left x.n=(0:Int) then x.r else x.r.fail (numE x.r.left x.n)).e=x.r.e∧True)∧True)∧True))∧(decide
 (lowN2 (Rd.mk x.r.b x.r.i x.r.e).left.tail (wr IntKind.i64 ((Rd.mk x.r.b x.r.i x.r.e).left.getD (Int.toNat (0:Int)) (0:Int)))>x.n)=false →
 ((!lowE (Rd.mk x.r.b x.r.i x.r.e).left.tail (wr IntKind.i64 ((Rd.mk x.r.b x.r.i x.r.e).left.getD (Int.toNat (0:Int)) (0:Int)))==(0:Int))=true
 → (True∧lowE (Rd.mk x.r.b x.r.i x.r.e).left.tail (wr IntKind.i64 ((Rd.mk x.r.b x.r.i x.r.e).left.getD (Int.toNat (0:Int)) (0:Int)))=lowE (Rd.mk
 x.r.b x.r.i x.r.e).left.tail (wr IntKind.i64 ((Rd.mk x.r.b x.r.i x.r.e).left.getD (Int.toNat (0:Int)) (0:Int))))∧((x.r.b=x.r.b∧x.r.i=x.r.i
 ∧ x.r.e=x.r.e∧True)∧True)∧True∧((if numE x.r.left x.n=(0:Int) then numV x.r.left else (0:Int))=(0:Int)∧(if numE x.r.left x.n=(0
 : Int) then numW x.r.left else (0:Int))=(0:Int)∧decide (numE x.r.left x.n=(0:Int))=false)∧(((if numE x.r.left x.n=(0:Int) then x.r
 else x.r.fail (numE x.r.left x.n)).b=x.r.b∧(if numE x.r.left x.n=(0:Int) then x.r else x.r.fail (numE x.r.left x.n)).i=x.r.i∧((if numE
 x.r.left x.n=(0:Int) then x.r else x.r.fail (numE x.r.left x.n)).e=if x.r.e=(0:Int) then lowE (Rd.mk x.r.b x.r.i x.r.e).left.tail (wr
 IntKind.i64 ((Rd.mk x.r.b x.r.i x.r.e).left.getD (Int.toNat (0:Int)) (0:Int))) else x.r.e)∧True)∧True)∧True)∧((!lowE (Rd.mk x.r.b x.r.i
 x.r.e).left.tail (wr IntKind.i64 ((Rd.mk x.r.b x.r.i x.r.e).left.getD (Int.toNat (0:Int)) (0:Int)))==(0:Int))=false→(0:Int)≤(0:Int) ∧
 (0:Int)<(↑(Rd.mk x.r.b x.r.i x.r.e).left.length:Int)∧Int.toNat (0:Int)<(Rd.mk x.r.b x.r.i x.r.e).left.length∧inI64 ((1:Int)+wr
 IntKind.i64 ((Rd.mk x.r.b x.r.i x.r.e).left.getD (Int.toNat (0:Int)) (0:Int)))∧((if numE x.r.left x.n=(0:Int) then numV x.r.left else (0 :
 Int))=lowN2 (Rd.mk x.r.b x.r.i x.r.e).left.tail (wr IntKind.i64 ((Rd.mk x.r.b x.r.i x.r.e).left.getD (Int.toNat (0:Int)) (0:Int)))∧(if numE
 x.r.left x.n=(0:Int) then numW x.r.left else (0:Int))=(1:Int)+wr IntKind.i64 ((Rd.mk x.r.b x.r.i x.r.e).left.getD (Int.toNat (0:Int)) (0
 : Int))∧decide (numE x.r.left x.n=(0:Int))=true)∧(((if numE x.r.left x.n=(0:Int) then x.r else x.r.fail (numE x.r.left x.n)).b=x.r.b ∧
 (if numE x.r.left x.n=(0:Int) then x.r else x.r.fail (numE x.r.left x.n)).i=x.r.i∧(if numE x.r.left x.n=(0:Int) then x.r else x.r.fail
 (numE x.r.left x.n)).e=x.r.e∧True)∧True)∧True)))∧((lowE (Rd.mk x.r.b x.r.i x.r.e).left.tail (wr IntKind.i64 ((Rd.mk x.r.b x.r.i
 x.r.e).left.getD (Int.toNat (0:Int)) (0:Int)))==(0:Int))=false→((!lowE (Rd.mk x.r.b x.r.i x.r.e).left.tail (wr IntKind.i64 ((Rd.mk x.r.b
 x.r.i x.r.e).left.getD (Int.toNat (0:Int)) (0:Int)))==(0:Int))=true→(True∧lowE (Rd.mk x.r.b x.r.i x.r.e).left.tail (wr IntKind.i64
 ((Rd.mk x.r.b x.r.i x.r.e).left.getD (Int.toNat (0:Int)) (0:Int)))=lowE (Rd.mk x.r.b x.r.i x.r.e).left.tail (wr IntKind.i64 ((Rd.mk x.r.b x.r.i
 x.r.e).left.getD (Int.toNat (0:Int)) (0:Int))))∧((x.r.b=x.r.b∧x.r.i=x.r.i∧x.r.e=x.r.e∧True)∧True)∧True∧((if numE x.r.left x.n =
 (0:Int) then numV x.r.left else (0:Int))=(0:Int)∧(if numE x.r.left x.n=(0:Int) then numW x.r.left else (0:Int))=(0:Int)∧decide
 (numE x.r.left x.n=(0:Int))=false)∧(((if numE x.r.left x.n=(0:Int) then x.r else x.r.fail (numE x.r.left x.n)).b=x.r.b∧(if numE
 x.r.left x.n=(0:Int) then x.r else x.r.fail (numE x.r.left x.n)).i=x.r.i∧((if numE x.r.left x.n=(0:Int) then x.r else x.r.fail (numE
 x.r.left x.n)).e=if x.r.e=(0:Int) then lowE (Rd.mk x.r.b x.r.i x.r.e).left.tail (wr IntKind.i64 ((Rd.mk x.r.b x.r.i x.r.e).left.getD (Int.toNat
 (0:Int)) (0:Int))) else x.r.e)∧True)∧True)∧True)∧((!lowE (Rd.mk x.r.b x.r.i x.r.e).left.tail (wr IntKind.i64 ((Rd.mk x.r.b x.r.i
 x.r.e).left.getD (Int.toNat (0:Int)) (0:Int)))==(0:Int))=false→(0:Int)≤(0:Int)∧(0:Int)<(↑(Rd.mk x.r.b x.r.i x.r.e).left.length
 : Int)∧Int.toNat (0:Int)<(Rd.mk x.r.b x.r.i x.r.e).left.length∧inI64 ((1:Int)+wr IntKind.i64 ((Rd.mk x.r.b x.r.i x.r.e).left.getD
 (Int.toNat (0:Int)) (0:Int)))∧((if numE x.r.left x.n=(0:Int) then numV x.r.left else (0:Int))=lowN2 (Rd.mk x.r.b x.r.i x.r.e).left.tail
 (wr IntKind.i64 ((Rd.mk x.r.b x.r.i x.r.e).left.getD (Int.toNat (0:Int)) (0:Int)))∧(if numE x.r.left x.n=(0:Int) then numW x.r.left else (0 :
 Int))=(1:Int)+wr IntKind.i64 ((Rd.mk x.r.b x.r.i x.r.e).left.getD (Int.toNat (0:Int)) (0:Int))∧decide (numE x.r.left x.n=(0:Int)) =
 true)∧(((if numE x.r.left x.n=(0:Int) then x.r else x.r.fail (numE x.r.left x.n)).b=x.r.b∧(if numE x.r.left x.n=(0:Int) then x.r else
 x.r.fail (numE x.r.left x.n)).i=x.r.i∧(if numE x.r.left x.n=(0:Int) then x.r else x.r.fail (numE x.r.left x.n)).e=x.r.e∧True)∧True) ∧
 True)))))
theorem number_eq:numberVC=fnS F123 f96 (bodyOf f96) numberLS noAnn:=by kernel_rfl
theorem number_vc:numberVC:=by
 rintro ⟨⟨b,i,e⟩,m⟩ ⟨hr,hm⟩
 have hl:=left_len _ hr
 have hb:=left_byt hr
 have hlen:=hr.len
 have hlo:=hr.lo
 simp only at hl hlen hlo hm
 cases hL:(Rd.mk b i e).left with
 | nil=>simp [hr,numE,Rd.fail]
 | cons c s=>
  have hc:0≤c∧c<256:=hb c (by rw [hL]; exact List.mem_cons_self)
  have hw:wr .i64 c=c:=by rw [wr64 (by unfold inI64; omega)]
  have hi:inI64 (1+c):=by unfold inI64; omega
  by_cases h8:c>8
  ·have hE:numE (c::s) m=3:=by simp [numE,h8]
   simp [hE,h8,hr,Rd.fail]
   try omega
  ·have hlow:(LowX.mk (Rd.mk b i e) c).Ok:=⟨hr,by rw [hL] at hl; simp only [List.length_cons] at hl; simp only; omega,hc.1,by simp only; omega⟩
   by_cases hE:lowE s c=0
   ·have hN:lowN2 s c=bigE (s.take c.toNat):=by unfold lowN2; rw [if_pos hE]
    by_cases hB:bigE (s.take c.toNat)>m
    ·have hE2:numE (c::s) m=4:=by simp only [numE]; rw [if_neg h8,if_neg (fun h=>h hE),if_pos hB]
     simp [hE,hE2,h8,hr,Rd.fail,hw,hlow,hN,hB]
     try omega
    ·have hE2:numE (c::s) m=0:=by simp only [numE]; rw [if_neg h8,if_neg (fun h=>h hE),if_neg hB]
     simp [hE,hE2,h8,hr,hw,hlow,hN,hB,hi,numV,numW]
     try omega
   ·have hE2:numE (c::s) m=lowE s c:=by simp only [numE]; rw [if_neg h8,if_pos hE]
    simp [hE,hE2,h8,hr,Rd.fail,hw,hlow]
    try omega
theorem number_ok:Fits F123 f96 (bodyOf f96) numberLS noAnn:=by
 constructor
 rw [← number_eq]
 exact number_vc
theorem f108_has:Has prog 96 f96 (bodyOf f96):=⟨by kernel_rfl,by kernel_rfl,by kernel_rfl⟩
theorem known124:Known prog L124:=by
 unfold L124
 exact known123.lent mixed f108_has F123_eq number_ok (fun _ _=>Nat.le_refl _) (fun h=>by cases h)
/-- What a number that is one has. -/
theorem num_facts {r:Rd} (hr:r.Ok) {m:Int} (h:numE r.left m=0):0≤numV r.left∧numV r.left≤m∧1≤numW r.left∧numW r.left≤r.left.length:=by
 have hb:=left_byt hr
 cases hL:r.left with
 | nil=>rw [hL] at h; simp [numE] at h
 | cons c s=>
  rw [hL] at h hb
  have hc:=hb c List.mem_cons_self
  simp only [numE] at h
  split at h
  ·omega
  split at h
  ·omega
  split at h
  ·omega
  rename_i h1 h2 h3
  have h4:¬((s.length:Int)<c):=fun h=>h2 (by unfold lowE; rw [if_pos h]; omega)
  have h5:=bigE_lt (fun y hy=>hb y (List.mem_cons_of_mem _ hy)) c.toNat (by omega)
  simp only [numV,numW,List.length_cons]
  omega
def rdUintVC:Prop:=∀ (x:RdN),x.Ok→True∧((x.r.b=x.r.b∧x.r.i=x.r.i∧x.r.e=x.r.e∧True)∧True)∧True∧(decide (x.r.e≠(0:Int))=true→(uintR x.r
 x.n).fst=(0:Int)∧(((uintR x.r x.n).snd.b=x.r.b∧(uintR x.r x.n).snd.i=x.r.i∧(uintR x.r x.n).snd.e=x.r.e∧True)∧True)∧True) ∧
 (decide (x.r.e≠(0:Int))=false→(True∧x.n=x.n)∧((x.r.b=x.r.b∧x.r.i=x.r.i∧x.r.e=x.r.e∧True)∧True)∧(RdN.mk (Rd.mk x.r.b x.r.i
 x.r.e) x.n).Ok∧(decide (numE (Rd.mk x.r.b x.r.i x.r.e).left x.n=(0:Int))=true→inI64 ((if numE (Rd.mk x.r.b x.r.i x.r.e).left x.n=(0:Int)
 then Rd.mk x.r.b x.r.i x.r.e else (Rd.mk x.r.b x.r.i x.r.e).fail (numE (Rd.mk x.r.b x.r.i x.r.e).left x.n)).i+if numE (Rd.mk x.r.b x.r.i x.r.e).left
 x.n=(0:Int) then numW (Rd.mk x.r.b x.r.i x.r.e).left else (0:Int))∧((uintR x.r x.n).fst=if numE (Rd.mk x.r.b x.r.i x.r.e).left x.n=(0 :
 Int) then numV (Rd.mk x.r.b x.r.i x.r.e).left else (0:Int))∧(((uintR x.r x.n).snd.b=(if numE (Rd.mk x.r.b x.r.i x.r.e).left x.n=(0:Int) then
 Rd.mk x.r.b x.r.i x.r.e else (Rd.mk x.r.b x.r.i x.r.e).fail (numE (Rd.mk x.r.b x.r.i x.r.e).left x.n)).b∧((uintR x.r x.n).snd.i=(if numE (Rd.mk
 x.r.b x.r.i x.r.e).left x.n=(0:Int) then Rd.mk x.r.b x.r.i x.r.e else (Rd.mk x.r.b x.r.i x.r.e).fail (numE (Rd.mk x.r.b x.r.i x.r.e).left x.n)).i +
 if numE (Rd.mk x.r.b x.r.i x.r.e).left x.n=(0:Int) then numW (Rd.mk x.r.b x.r.i x.r.e).left else (0:Int))∧(uintR x.r x.n).snd.e=(if numE
 (Rd.mk x.r.b x.r.i x.r.e).left x.n=(0:Int) then Rd.mk x.r.b x.r.i x.r.e else (Rd.mk x.r.b x.r.i x.r.e).fail (numE (Rd.mk x.r.b x.r.i x.r.e).left
 x.n)).e∧True)∧True)∧True)∧(decide (numE (Rd.mk x.r.b x.r.i x.r.e).left x.n=(0:Int))=false→((uintR x.r x.n).fst=if numE (Rd.mk x.r.b
 x.r.i x.r.e).left x.n=(0:Int) then numV (Rd.mk x.r.b x.r.i x.r.e).left else (0:Int))∧(((uintR x.r x.n).snd.b=(if numE (Rd.mk x.r.b x.r.i
 x.r.e).left x.n=(0:Int) then Rd.mk x.r.b x.r.i x.r.e else (Rd.mk x.r.b x.r.i x.r.e).fail (numE (Rd.mk x.r.b x.r.i x.r.e).left x.n)).b∧(uintR x.r
 x.n).snd.i=(if numE (Rd.mk x.r.b x.r.i x.r.e).left x.n=(0:Int) then Rd.mk x.r.b x.r.i x.r.e else (Rd.mk x.r.b x.r.i x.r.e).fail (numE (Rd.mk
 x.r.b x.r.i x.r.e).left x.n)).i∧(uintR x.r x.n).snd.e=(if numE (Rd.mk x.r.b x.r.i x.r.e).left x.n=(0:Int) then Rd.mk x.r.b x.r.i x.r.e else
 (Rd.mk x.r.b x.r.i x.r.e).fail (numE (Rd.mk x.r.b x.r.i x.r.e).left x.n)).e∧True)∧True)∧True))
theorem rdUint_eq:rdUintVC=fnS F124 f50 (bodyOf f50) rUintLS2 noAnn:=by kernel_rfl
theorem rdUint_vc:rdUintVC:=by
 rintro ⟨⟨b,i,e⟩,m⟩ hx
 have hr:=hx.r
 simp only at hr
 by_cases he:e=0
 ·subst he
  have hl:=left_len _ hr
  have nf:=num_facts hr (m:=m)
  have hlen:=hr.len
  have hlo:=hr.lo
  simp only at hl hlen hlo
  by_cases hz:numE (Rd.mk b i 0).left m=0
  ·have:=nf hz
   have hi:inI64 (i+numW (Rd.mk b i 0).left):=by unfold inI64; omega
   simp [uintR,hz,hx,hi]
  ·simp [uintR,hz,hx,Rd.fail]
 ·simp [uintR,he]
theorem rdUint_ok:Fits F124 f50 (bodyOf f50) rUintLS2 noAnn:=by
 constructor
 rw [← rdUint_eq]
 exact rdUint_vc
theorem f78_has:Has prog 50 f50 (bodyOf f50):=⟨by kernel_rfl,by kernel_rfl,by kernel_rfl⟩
theorem known125:Known prog L125:=by
 unfold L125
 exact known124.lent mixed f78_has F124_eq rdUint_ok (fun _ _=>Nat.le_refl _) (fun h=>by cases h)
def countVC:Prop:=∀ (x:RdN),x.Few→True∧((x.r.b=x.r.b∧x.r.i=x.r.i∧x.r.e=x.r.e∧True)∧True)∧True∧(decide (x.r.e≠(0:Int))=true→(countR x.r
 x.n).fst=(0:Int)∧(((countR x.r x.n).snd.b=x.r.b∧(countR x.r x.n).snd.i=x.r.i∧(countR x.r x.n).snd.e=x.r.e∧True)∧True)∧True) ∧
 (decide (x.r.e≠(0:Int))=false→(True∧wr IntKind.u64 (max (0:Int) x.n)=wr IntKind.u64 (max (0:Int) x.n))∧((x.r.b=x.r.b∧x.r.i =
 x.r.i∧x.r.e=x.r.e∧True)∧True)∧(RdN.mk (Rd.mk x.r.b x.r.i x.r.e) (wr IntKind.u64 (max (0:Int) x.n))).Ok∧(decide (numE (Rd.mk x.r.b x.r.i
 x.r.e).left (wr IntKind.u64 (max (0:Int) x.n))=(0:Int))=true→True∧(((if numE (Rd.mk x.r.b x.r.i x.r.e).left (wr IntKind.u64 (max (0:Int)
 x.n))=(0:Int) then Rd.mk x.r.b x.r.i x.r.e else (Rd.mk x.r.b x.r.i x.r.e).fail (numE (Rd.mk x.r.b x.r.i x.r.e).left (wr IntKind.u64 (max (0:Int)
 x.n)))).b=(if numE (Rd.mk x.r.b x.r.i x.r.e).left (wr IntKind.u64 (max (0:Int) x.n))=(0:Int) then Rd.mk x.r.b x.r.i x.r.e else (Rd.mk x.r.b
 x.r.i x.r.e).fail (numE (Rd.mk x.r.b x.r.i x.r.e).left (wr IntKind.u64 (max (0:Int) x.n)))).b∧(if numE (Rd.mk x.r.b x.r.i x.r.e).left (wr
 IntKind.u64 (max (0:Int) x.n))=(0:Int) then Rd.mk x.r.b x.r.i x.r.e else (Rd.mk x.r.b x.r.i x.r.e).fail (numE (Rd.mk x.r.b x.r.i x.r.e).left (wr
 IntKind.u64 (max (0:Int) x.n)))).i=(if numE (Rd.mk x.r.b x.r.i x.r.e).left (wr IntKind.u64 (max (0:Int) x.n))=(0:Int) then Rd.mk x.r.b x.r.i
 x.r.e else (Rd.mk x.r.b x.r.i x.r.e).fail (numE (Rd.mk x.r.b x.r.i x.r.e).left (wr IntKind.u64 (max (0:Int) x.n)))).i∧(if numE (Rd.mk x.r.b x.r.i
 x.r.e).left (wr IntKind.u64 (max (0:Int) x.n))=(0:Int) then Rd.mk x.r.b x.r.i x.r.e else (Rd.mk x.r.b x.r.i x.r.e).fail (numE (Rd.mk x.r.b x.r.i
 x.r.e).left (wr IntKind.u64 (max (0:Int) x.n)))).e=(if numE (Rd.mk x.r.b x.r.i x.r.e).left (wr IntKind.u64 (max (0:Int) x.n))=(0:Int) then
 Rd.mk x.r.b x.r.i x.r.e else (Rd.mk x.r.b x.r.i x.r.e).fail (numE (Rd.mk x.r.b x.r.i x.r.e).left (wr IntKind.u64 (max (0:Int) x.n)))).e∧True) ∧
 True)∧(Rd.mk (if numE (Rd.mk x.r.b x.r.i x.r.e).left (wr IntKind.u64 (max (0:Int) x.n))=(0:Int) then Rd.mk x.r.b x.r.i x.r.e else (Rd.mk x.r.b
 x.r.i x.r.e).fail (numE (Rd.mk x.r.b x.r.i x.r.e).left (wr IntKind.u64 (max (0:Int) x.n)))).b (if numE (Rd.mk x.r.b x.r.i x.r.e).left (wr IntKind.u64
 (max (0:Int) x.n))=(0:Int) then Rd.mk x.r.b x.r.i x.r.e else (Rd.mk x.r.b x.r.i x.r.e).fail (numE (Rd.mk x.r.b x.r.i x.r.e).left (wr IntKind.u64
 (max (0:Int) x.n)))).i (if numE (Rd.mk x.r.b x.r.i x.r.e).left (wr IntKind.u64 (max (0:Int) x.n))=(0:Int) then Rd.mk x.r.b x.r.i x.r.e else
 (Rd.mk x.r.b x.r.i x.r.e).fail (numE (Rd.mk x.r.b x.r.i x.r.e).left (wr IntKind.u64 (max (0:Int) x.n)))).e).Ok∧((↑(Rd.mk (if numE (Rd.mk x.r.b
 x.r.i x.r.e).left (wr IntKind.u64 (max (0:Int) x.n))=(0:Int) then Rd.mk x.r.b x.r.i x.r.e else (Rd.mk x.r.b x.r.i x.r.e).fail (numE (Rd.mk x.r.b
 x.r.i x.r.e).left (wr IntKind.u64 (max (0:Int) x.n)))).b (if numE (Rd.mk x.r.b x.r.i x.r.e).left (wr IntKind.u64 (max (0:Int) x.n))=(0:Int)
 then Rd.mk x.r.b x.r.i x.r.e else (Rd.mk x.r.b x.r.i x.r.e).fail (numE (Rd.mk x.r.b x.r.i x.r.e).left (wr IntKind.u64 (max (0:Int) x.n)))).i (if numE
 (Rd.mk x.r.b x.r.i x.r.e).left (wr IntKind.u64 (max (0:Int) x.n))=(0:Int) then Rd.mk x.r.b x.r.i x.r.e else (Rd.mk x.r.b x.r.i x.r.e).fail (numE
 (Rd.mk x.r.b x.r.i x.r.e).left (wr IntKind.u64 (max (0:Int) x.n)))).e).left.length:Int)≤(9223372036854775807:Int)→inI64 ((↑(Rd.mk (if numE
 (Rd.mk x.r.b x.r.i x.r.e).left (wr IntKind.u64 (max (0:Int) x.n))=(0:Int) then Rd.mk x.r.b x.r.i x.r.e else (Rd.mk x.r.b x.r.i x.r.e).fail (numE
 (Rd.mk x.r.b x.r.i x.r.e).left (wr IntKind.u64 (max (0:Int) x.n)))).b (if numE (Rd.mk x.r.b x.r.i x.r.e).left (wr IntKind.u64 (max (0:Int) x.n)) =
 (0:Int) then Rd.mk x.r.b x.r.i x.r.e else (Rd.mk x.r.b x.r.i x.r.e).fail (numE (Rd.mk x.r.b x.r.i x.r.e).left (wr IntKind.u64 (max (0:Int)
 x.n)))).i (if numE (Rd.mk x.r.b x.r.i x.r.e).left (wr IntKind.u64 (max (0:Int) x.n))=(0:Int) then Rd.mk x.r.b x.r.i x.r.e else (Rd.mk x.r.b x.r.i
 x.r.e).fail (numE (Rd.mk x.r.b x.r.i x.r.e).left (wr IntKind.u64 (max (0:Int) x.n)))).e).left.length:Int)-if numE (Rd.mk x.r.b x.r.i x.r.e).left
 (wr IntKind.u64 (max (0:Int) x.n))=(0:Int) then numW (Rd.mk x.r.b x.r.i x.r.e).left else (0:Int))∧(decide ((if numE (Rd.mk x.r.b x.r.i
 x.r.e).left (wr IntKind.u64 (max (0:Int) x.n))=(0:Int) then numV (Rd.mk x.r.b x.r.i x.r.e).left else (0:Int))>wr IntKind.u64 ((↑(Rd.mk (if
 numE (Rd.mk x.r.b x.r.i x.r.e).left (wr IntKind.u64 (max (0:Int) x.n))=(0:Int) then Rd.mk x.r.b x.r.i x.r.e else (Rd.mk x.r.b x.r.i x.r.e).fail
 (numE (Rd.mk x.r.b x.r.i x.r.e).left (wr IntKind.u64 (max (0:Int) x.n)))).b (if numE (Rd.mk x.r.b x.r.i x.r.e).left (wr IntKind.u64 (max (0:Int)
 x.n))=(0:Int) then Rd.mk x.r.b x.r.i x.r.e else (Rd.mk x.r.b x.r.i x.r.e).fail (numE (Rd.mk x.r.b x.r.i x.r.e).left (wr IntKind.u64 (max (0:Int)
 x.n)))).i (if numE (Rd.mk x.r.b x.r.i x.r.e).left (wr IntKind.u64 (max (0:Int) x.n))=(0:Int) then Rd.mk x.r.b x.r.i x.r.e else (Rd.mk x.r.b x.r.i
 x.r.e).fail (numE (Rd.mk x.r.b x.r.i x.r.e).left (wr IntKind.u64 (max (0:Int) x.n)))).e).left.length:Int)-if numE (Rd.mk x.r.b x.r.i x.r.e).left
 (wr IntKind.u64 (max (0:Int) x.n))=(0:Int) then numW (Rd.mk x.r.b x.r.i x.r.e).left else (0:Int)))=true→(True∧(2:Int)=(2:Int)∧(2
 : Int)≠(0:Int))∧(((if numE (Rd.mk x.r.b x.r.i x.r.e).left (wr IntKind.u64 (max (0:Int) x.n))=(0:Int) then Rd.mk x.r.b x.r.i x.r.e else
 (Rd.mk x.r.b x.r.i x.r.e).fail (numE (Rd.mk x.r.b x.r.i x.r.e).left (wr IntKind.u64 (max (0:Int) x.n)))).b=(if numE (Rd.mk x.r.b x.r.i x.r.e).left
 (wr IntKind.u64 (max (0:Int) x.n))=(0:Int) then Rd.mk x.r.b x.r.i x.r.e else (Rd.mk x.r.b x.r.i x.r.e).fail (numE (Rd.mk x.r.b x.r.i x.r.e).left
 (wr IntKind.u64 (max (0:Int) x.n)))).b∧(if numE (Rd.mk x.r.b x.r.i x.r.e).left (wr IntKind.u64 (max (0:Int) x.n))=(0:Int) then Rd.mk x.r.b
 x.r.i x.r.e else (Rd.mk x.r.b x.r.i x.r.e).fail (numE (Rd.mk x.r.b x.r.i x.r.e).left (wr IntKind.u64 (max (0:Int) x.n)))).i=(if numE (Rd.mk x.r.b
 x.r.i x.r.e).left (wr IntKind.u64 (max (0:Int) x.n))=(0:Int) then Rd.mk x.r.b x.r.i x.r.e else (Rd.mk x.r.b x.r.i x.r.e).fail (numE (Rd.mk x.r.b
 x.r.i x.r.e).left (wr IntKind.u64 (max (0:Int) x.n)))).i∧(if numE (Rd.mk x.r.b x.r.i x.r.e).left (wr IntKind.u64 (max (0:Int) x.n))=(0:Int)
 then Rd.mk x.r.b x.r.i x.r.e else (Rd.mk x.r.b x.r.i x.r.e).fail (numE (Rd.mk x.r.b x.r.i x.r.e).left (wr IntKind.u64 (max (0:Int) x.n)))).e=(if
 numE (Rd.mk x.r.b x.r.i x.r.e).left (wr IntKind.u64 (max (0:Int) x.n))=(0:Int) then Rd.mk x.r.b x.r.i x.r.e else (Rd.mk x.r.b x.r.i x.r.e).fail
 (numE (Rd.mk x.r.b x.r.i x.r.e).left (wr IntKind.u64 (max (0:Int) x.n)))).e∧True)∧True)∧True∧(countR x.r x.n).fst=(0:Int)∧(((countR x.r
 x.n).snd.b=(if numE (Rd.mk x.r.b x.r.i x.r.e).left (wr IntKind.u64 (max (0:Int) x.n))=(0:Int) then Rd.mk x.r.b x.r.i x.r.e else (Rd.mk x.r.b
 x.r.i x.r.e).fail (numE (Rd.mk x.r.b x.r.i x.r.e).left (wr IntKind.u64 (max (0:Int) x.n)))).b∧(countR x.r x.n).snd.i=(if numE (Rd.mk x.r.b x.r.i
 x.r.e).left (wr IntKind.u64 (max (0:Int) x.n))=(0:Int) then Rd.mk x.r.b x.r.i x.r.e else (Rd.mk x.r.b x.r.i x.r.e).fail (numE (Rd.mk x.r.b x.r.i
 x.r.e).left (wr IntKind.u64 (max (0:Int) x.n)))).i∧((countR x.r x.n).snd.e=if (if numE (Rd.mk x.r.b x.r.i x.r.e).left (wr IntKind.u64 (max (0 :
 Int) x.n))=(0:Int) then Rd.mk x.r.b x.r.i x.r.e else (Rd.mk x.r.b x.r.i x.r.e).fail (numE (Rd.mk x.r.b x.r.i x.r.e).left (wr IntKind.u64 (max (0 :
 Int) x.n)))).e=(0:Int) then (2:Int) else (if numE (Rd.mk x.r.b x.r.i x.r.e).left (wr IntKind.u64 (max (0:Int) x.n))=(0:Int) then Rd.mk
 x.r.b x.r.i x.r.e else (Rd.mk x.r.b x.r.i x.r.e).fail (numE (Rd.mk x.r.b x.r.i x.r.e).left (wr IntKind.u64 (max (0:Int) x.n)))).e)∧True)∧True) ∧
 True)∧(decide ((if numE (Rd.mk x.r.b x.r.i x.r.e).left (wr IntKind.u64 (max (0:Int) x.n))=(0:Int) then numV (Rd.mk x.r.b x.r.i x.r.e).left else
 (0:Int))>wr IntKind.u64 ((↑(Rd.mk (if numE (Rd.mk x.r.b x.r.i x.r.e).left (wr IntKind.u64 (max (0:Int) x.n))=(0:Int) then Rd.mk x.r.b x.r.i
 x.r.e else (Rd.mk x.r.b x.r.i x.r.e).fail (numE (Rd.mk x.r.b x.r.i x.r.e).left (wr IntKind.u64 (max (0:Int) x.n)))).b (if numE (Rd.mk x.r.b x.r.i
 x.r.e).left (wr IntKind.u64 (max (0:Int) x.n))=(0:Int) then Rd.mk x.r.b x.r.i x.r.e else (Rd.mk x.r.b x.r.i x.r.e).fail (numE (Rd.mk x.r.b x.r.i
 x.r.e).left (wr IntKind.u64 (max (0:Int) x.n)))).i (if numE (Rd.mk x.r.b x.r.i x.r.e).left (wr IntKind.u64 (max (0:Int) x.n))=(0:Int) then
 Rd.mk x.r.b x.r.i x.r.e else (Rd.mk x.r.b x.r.i x.r.e).fail (numE (Rd.mk x.r.b x.r.i x.r.e).left (wr IntKind.u64 (max (0:Int) x.n)))).e).left.length
 : Int)-if numE (Rd.mk x.r.b x.r.i x.r.e).left (wr IntKind.u64 (max (0:Int) x.n))=(0:Int) then numW (Rd.mk x.r.b x.r.i x.r.e).left else (0 :
 Int)))=false→inI64 ((if numE (Rd.mk x.r.b x.r.i x.r.e).left (wr IntKind.u64 (max (0:Int) x.n))=(0:Int) then Rd.mk x.r.b x.r.i x.r.e else
 (Rd.mk x.r.b x.r.i x.r.e).fail (numE (Rd.mk x.r.b x.r.i x.r.e).left (wr IntKind.u64 (max (0:Int) x.n)))).i+if numE (Rd.mk x.r.b x.r.i x.r.e).left
 (wr IntKind.u64 (max (0:Int) x.n))=(0:Int) then numW (Rd.mk x.r.b x.r.i x.r.e).left else (0:Int))∧(countR x.r x.n).fst=wr IntKind.i64 (if
 numE (Rd.mk x.r.b x.r.i x.r.e).left (wr IntKind.u64 (max (0:Int) x.n))=(0:Int) then numV (Rd.mk x.r.b x.r.i x.r.e).left else (0:Int)) ∧
 (((countR x.r x.n).snd.b=(if numE (Rd.mk x.r.b x.r.i x.r.e).left (wr IntKind.u64 (max (0:Int) x.n))=(0:Int) then Rd.mk x.r.b x.r.i x.r.e else
 (Rd.mk x.r.b x.r.i x.r.e).fail (numE (Rd.mk x.r.b x.r.i x.r.e).left (wr IntKind.u64 (max (0:Int) x.n)))).b∧((countR x.r x.n).snd.i=(if numE
 (Rd.mk x.r.b x.r.i x.r.e).left (wr IntKind.u64 (max (0:Int) x.n))=(0:Int) then Rd.mk x.r.b x.r.i x.r.e else (Rd.mk x.r.b x.r.i x.r.e).fail (numE
 (Rd.mk x.r.b x.r.i x.r.e).left (wr IntKind.u64 (max (0:Int) x.n)))).i+if numE (Rd.mk x.r.b x.r.i x.r.e).left (wr IntKind.u64 (max (0:Int) x.n)) =
 (0:Int) then numW (Rd.mk x.r.b x.r.i x.r.e).left else (0:Int))∧(countR x.r x.n).snd.e=(if numE (Rd.mk x.r.b x.r.i x.r.e).left (wr IntKind.u64
 (max (0:Int) x.n))=(0:Int) then Rd.mk x.r.b x.r.i x.r.e else (Rd.mk x.r.b x.r.i x.r.e).fail (numE (Rd.mk x.r.b x.r.i x.r.e).left (wr IntKind.u64
 (max (0:Int) x.n)))).e∧True)∧True)∧True)))∧(decide (numE (Rd.mk x.r.b x.r.i x.r.e).left (wr IntKind.u64 (max (0:Int) x.n))=(0:Int)) =
 false→(countR x.r x.n).fst=wr IntKind.i64 (if numE (Rd.mk x.r.b x.r.i x.r.e).left (wr IntKind.u64 (max (0:Int) x.n))=(0:Int) then numV (Rd.mk
 x.r.b x.r.i x.r.e).left else (0:Int))∧(((countR x.r x.n).snd.b=(if numE (Rd.mk x.r.b x.r.i x.r.e).left (wr IntKind.u64 (max (0:Int) x.n))=(0
 : Int) then Rd.mk x.r.b x.r.i x.r.e else (Rd.mk x.r.b x.r.i x.r.e).fail (numE (Rd.mk x.r.b x.r.i x.r.e).left (wr IntKind.u64 (max (0:Int) x.n)))).b ∧
 (countR x.r x.n).snd.i=(if numE (Rd.mk x.r.b x.r.i x.r.e).left (wr IntKind.u64 (max (0:Int) x.n))=(0:Int) then Rd.mk x.r.b x.r.i x.r.e else
 (Rd.mk x.r.b x.r.i x.r.e).fail (numE (Rd.mk x.r.b x.r.i x.r.e).left (wr IntKind.u64 (max (0:Int) x.n)))).i∧(countR x.r x.n).snd.e=(if numE (Rd.mk
 x.r.b x.r.i x.r.e).left (wr IntKind.u64 (max (0:Int) x.n))=(0:Int) then Rd.mk x.r.b x.r.i x.r.e else (Rd.mk x.r.b x.r.i x.r.e).fail (numE (Rd.mk
 x.r.b x.r.i x.r.e).left (wr IntKind.u64 (max (0:Int) x.n)))).e∧True)∧True)∧True))
theorem count_eq:countVC=fnS F125 f49 (bodyOf f49) countLS noAnn:=by kernel_rfl
theorem count_vc:countVC:=by
 rintro ⟨⟨b,i,e⟩,m⟩ hx
 have hr:=hx.r
 have hm:=hx.lo
 have hm2:=hx.hi
 simp only at hr hm hm2
 have hw:wr .u64 (max 0 m)=m:=by rw [Int.max_eq_right hm,wr64u]; omega
 have hok:(RdN.mk (Rd.mk b i e) m).Ok:=hx.toOk
 by_cases he:e=0
 ·subst he
  have hl:=left_len _ hr
  have nf:=num_facts hr (m:=m)
  have hlen:=hr.len
  have hlo:=hr.lo
  simp only at hl hlen hlo
  by_cases hz:numE (Rd.mk b i 0).left m=0
  ·have:=nf hz
   have hi:inI64 (i+numW (Rd.mk b i 0).left):=by unfold inI64; omega
   have hi2:inI64 (((Rd.mk b i 0).left.length:Int)-numW (Rd.mk b i 0).left):=by unfold inI64; omega
   have hw2:wr .u64 (((Rd.mk b i 0).left.length:Int)-numW (Rd.mk b i 0).left)=((Rd.mk b i 0).left.length:Int)-numW (Rd.mk b i 0).left:=by rw [wr64u]; omega
   have hw3:wr .i64 (numV (Rd.mk b i 0).left)=numV (Rd.mk b i 0).left:=wr64 (by unfold inI64; omega)
   by_cases hc:numV (Rd.mk b i 0).left>((Rd.mk b i 0).left.length:Int)-numW (Rd.mk b i 0).left
   ·simp [countR,hz,hw,hok,hi,hi2,hw2,hw3,hc,hr]
   ·simp [countR,hz,hw,hok,hi,hi2,hw2,hw3,hc,hr]
  ·have h0:wr .i64 0=0:=by decide
   simp [countR,hz,hw,hok,Rd.fail,h0]
 ·simp [countR,he]
theorem count_ok:Fits F125 f49 (bodyOf f49) countLS noAnn:=by
 constructor
 rw [← count_eq]
 exact count_vc
theorem f77_has:Has prog 49 f49 (bodyOf f49):=⟨by kernel_rfl,by kernel_rfl,by kernel_rfl⟩
theorem known126:Known prog L126:=by
 unfold L126
 exact known125.lent mixed f77_has F125_eq count_ok (fun _ _=>Nat.le_refl _) (fun h=>by cases h)
def rdHashVC:Prop:=∀ (x:Rd),x.Ok→True∧((x.b=x.b∧x.i=x.i∧x.e=x.e∧True)∧True)∧True∧(decide (x.e≠(0:Int))=true→((hashR x).fst =
 List.replicate (32:Nat) (0:Int)∧True)∧(((hashR x).snd.b=x.b∧(hashR x).snd.i=x.i∧(hashR x).snd.e=x.e∧True)∧True)∧True)∧(decide
 (x.e≠(0:Int))=false→True∧((x.b=x.b∧x.i=x.i∧x.e=x.e∧True)∧True)∧(Rd.mk x.b x.i x.e).Ok∧((↑(Rd.mk x.b x.i x.e).left.length :
 Int)≤(9223372036854775807:Int)→(decide ((↑(Rd.mk x.b x.i x.e).left.length:Int)<(32:Int))=true→(True∧(12:Int)=(12:Int)∧(12 :
 Int)≠(0:Int))∧((x.b=x.b∧x.i=x.i∧x.e=x.e∧True)∧True)∧True∧((hashR x).fst=List.replicate (32:Nat) (0:Int)∧True) ∧
 (((hashR x).snd.b=x.b∧(hashR x).snd.i=x.i∧((hashR x).snd.e=if x.e=(0:Int) then (12:Int) else x.e)∧True)∧True)∧True)∧(decide
 ((↑(Rd.mk x.b x.i x.e).left.length:Int)<(32:Int))=false→(True∧((x.b=x.b∧x.i=x.i∧x.e=x.e∧True)∧True)∧(Rd.mk x.b x.i x.e).Ok
 ∧ inI64 (x.i+(↑(min (Rd.mk x.b x.i x.e).left.length (nat_lit 31+(1:Nat))):Int))∧((hashR x).fst=copyInts (List.replicate (32:Nat) (0 :
 Int)) (Rd.mk x.b x.i x.e).left∧True)∧(((hashR x).snd.b=x.b∧(hashR x).snd.i=x.i+(↑(min (Rd.mk x.b x.i x.e).left.length (nat_lit 31+(1 :
 Nat))):Int)∧(hashR x).snd.e=x.e∧True)∧True)∧True)∧True∧((x.b=x.b∧x.i=x.i∧x.e=x.e∧True)∧True)∧(Rd.mk x.b x.i x.e).Ok ∧
 (inI64 (x.i+(↑(min (Rd.mk x.b x.i x.e).left.length (nat_lit 31+(1:Nat))):Int))∧((hashR x).fst=copyInts (List.replicate (32:Nat) (0 :
 Int)) (Rd.mk x.b x.i x.e).left∧True)∧(((hashR x).snd.b=x.b∧(hashR x).snd.i=x.i+(↑(min (Rd.mk x.b x.i x.e).left.length (nat_lit 31+(1 :
 Nat))):Int)∧(hashR x).snd.e=x.e∧True)∧True)∧True)∧inI64 (x.i+(↑(min (Rd.mk x.b x.i x.e).left.length (nat_lit 31+(1:Nat))):Int)) ∧
 ((hashR x).fst=copyInts (List.replicate (32:Nat) (0:Int)) (Rd.mk x.b x.i x.e).left∧True)∧(((hashR x).snd.b=x.b∧(hashR x).snd.i=x.i +
 (↑(min (Rd.mk x.b x.i x.e).left.length (nat_lit 31+(1:Nat))):Int)∧(hashR x).snd.e=x.e∧True)∧True)∧True)))
theorem rdHash_eq:rdHashVC=fnS F126 f51 (bodyOf f51) rHashLS2 noAnn:=by kernel_rfl
theorem rdHash_vc:rdHashVC:=by
 rintro ⟨b,i,e⟩ hr
 by_cases he:e=0
 ·subst he
  have hl:=left_len _ hr
  have hlen:=hr.len
  have hlo:=hr.lo
  simp only at hl hlen hlo
  by_cases hz:(Rd.mk b i 0).left.length<32
  ·simp [hashR,hz,hr]
   try omega
  ·have hm:min (Rd.mk b i 0).left.length 32=32:=by omega
   have hc:copyInts (List.replicate 32 0) (Rd.mk b i 0).left=(Rd.mk b i 0).left.take 32:=by
    unfold copyInts
    rw [List.length_replicate,List.drop_of_length_le (by rw [List.length_replicate]; omega),List.append_nil]
   have hi:inI64 (i+32):=by unfold inI64; omega
   simp [hashR,hz,hr,hm,hi]
   exact fun _=>⟨by omega,fun _=>hc.symm⟩
 ·simp [hashR,he]
theorem rdHash_ok:Fits F126 f51 (bodyOf f51) rHashLS2 noAnn:=by
 constructor
 rw [← rdHash_eq]
 exact rdHash_vc
theorem f79_has:Has prog 51 f51 (bodyOf f51):=⟨by kernel_rfl,by kernel_rfl,by kernel_rfl⟩
theorem known127:Known prog L127:=by
 unfold L127
 exact known126.lent mixed f79_has F126_eq rdHash_ok (fun _ _=>Nat.le_refl _) (fun h=>by cases h)
def rdDoneVC:Prop:=∀ (x:Rd),True→((!x.e==(0:Int))=true→doneR x=x.e∧((x.b=x.b∧x.i=x.i∧x.e=x.e∧True)∧True)∧True)∧((!x.e==(0:Int)) =
 false→(x.b.length:Int)≤(9223372036854775807:Int)→(decide (x.i<(x.b.length:Int))=true→(doneR x=(3:Int)∧(3:Int)≠(0:Int))
 ∧ ((x.b=x.b∧x.i=x.i∧x.e=x.e∧True)∧True)∧True)∧(decide (x.i<(x.b.length:Int))=false→doneR x=(0:Int)∧((x.b=x.b∧x.i =
 x.i∧x.e=x.e∧True)∧True)∧True))
theorem rdDone_eq:rdDoneVC=fnS F127 f52 (bodyOf f52) rDoneLS noAnn:=by kernel_rfl
theorem rdDone_vc:rdDoneVC:=by
 rintro ⟨b,i,e⟩ _
 by_cases he:e=0
 ·subst he
  by_cases hz:i<b.length
  ·simp [doneR,hz]
  ·simp [doneR,hz]
 ·simp [doneR,he]
theorem rdDone_ok:Fits F127 f52 (bodyOf f52) rDoneLS noAnn:=by
 constructor
 rw [← rdDone_eq]
 exact rdDone_vc
theorem f80_has:Has prog 52 f52 (bodyOf f52):=⟨by kernel_rfl,by kernel_rfl,by kernel_rfl⟩
theorem known128:Known prog L128:=by
 unfold L128
 exact known127.lent mixed f80_has F127_eq rdDone_ok (fun _ _=>Nat.le_refl _) (fun h=>by cases h)
def readVC:Prop:=∀ (x:List Int),True→True∧True∧(x=x∧(0:Int)=(0:Int)∧(0:Int)=(0:Int)∧True)∧True
theorem read_eq:readVC=fnS F128 f48 (bodyOf f48) readLS noAnn:=by kernel_rfl
theorem read_vc:readVC:=fun _ _=>⟨trivial,trivial,⟨rfl,rfl,rfl,trivial⟩,trivial⟩
theorem read_ok:Fits F128 f48 (bodyOf f48) readLS noAnn:=by
 constructor
 rw [← read_eq]
 exact read_vc
theorem f76_has:Has prog 48 f48 (bodyOf f48):=⟨by kernel_rfl,by kernel_rfl,by kernel_rfl⟩
theorem known129:Known prog L129:=by
 unfold L129
 exact known128.lent mixed f76_has F128_eq read_ok (fun _ _=>Nat.zero_le _) (fun _ _=>rfl)
end Go.Proofs.YtcglahfmnoghjaaGreatDoor

/-! A condition of bytes; two conditions the same; CondBack: what is said of them. Conditions: none. -/
namespace Go.Proofs.YtcglahfmnoghjaaGreatDoor
open Go Go.Eng Go.Proofs.Tryz
structure DecIn (b:List Int):Prop where
 byt:∀ y,y∈b→0≤y∧y<256
 len:b.length≤1000000000000
end Go.Proofs.YtcglahfmnoghjaaGreatDoor

/-! A condition of bytes: the walks. Conditions: none. -/
namespace Go.Proofs.YtcglahfmnoghjaaGreatDoor
open Go Go.Eng Go.Proofs.Tryz
theorem uintR_ok {r:Rd} (h:r.Ok) {m:Int} (hm:0≤m):(uintR r m).2.Ok∧0≤(uintR r m).1∧(uintR r m).1≤m:=by
 unfold uintR
 split
 ·exact ⟨h,by show (0:Int)≤0; omega,hm⟩
 split
 ·exact ⟨⟨h.byt,h.lo,h.hi,h.len⟩,by show (0:Int)≤0; omega,hm⟩
 rename_i h1 h2
 have nf:=num_facts h (m:=m) (Classical.not_not.1 h2)
 have hl:=left_len r h
 have:=h.lo
 exact ⟨⟨h.byt,by show 0≤r.i+numW r.left; omega,by show r.i+numW r.left≤r.b.length; omega,h.len⟩,nf.1,nf.2.1⟩
theorem countR_ok {r:Rd} (h:r.Ok) {m:Int} (hm:0≤m):(countR r m).2.Ok∧0≤(countR r m).1∧(countR r m).1≤m:=by
 unfold countR
 split
 ·exact ⟨h,by show (0:Int)≤0; omega,hm⟩
 split
 ·exact ⟨⟨h.byt,h.lo,h.hi,h.len⟩,by show (0:Int)≤0; omega,hm⟩
 rename_i h1 h2
 have nf:=num_facts h (m:=m) (Classical.not_not.1 h2)
 have hl:=left_len r h
 have:=h.lo
 split
 ·exact ⟨⟨h.byt,h.lo,h.hi,h.len⟩,by show (0:Int)≤0; omega,hm⟩
 exact ⟨⟨h.byt,by show 0≤r.i+numW r.left; omega,by show r.i+numW r.left≤r.b.length; omega,h.len⟩,nf.1,nf.2.1⟩
theorem hashR_ok {r:Rd} (h:r.Ok):(hashR r).2.Ok∧(hashR r).1.length=32:=by
 unfold hashR
 split
 ·exact ⟨h,by simp⟩
 split
 ·exact ⟨⟨h.byt,h.lo,h.hi,h.len⟩,by simp⟩
 have hl:=left_len r h
 have:=h.lo
 exact ⟨⟨h.byt,by show 0≤r.i+32; omega,by show r.i+32≤r.b.length; omega,h.len⟩,by
  show (r.left.take 32).length=32
  rw [List.length_take]; omega⟩
theorem keysR_ok {r:Rd} (h:r.Ok):∀ k,(dKeys k r).2.Ok∧(dKeys k r).1.length=k
 | 0=>⟨h,rfl⟩
 | k+1=>by
  obtain ⟨h1,h2⟩:=keysR_ok h k
  refine ⟨(uintR_ok h1 (m:=16) (by omega)).1,?_⟩
  show ((dKeys k r).1++[(uintR (dKeys k r).2 16).1]).length=k+1
  rw [List.length_append,h2]
  rfl
theorem kR_ok {r:Rd} (h:r.Ok):(dK r).2.Ok∧(dK r).1.length≤16:=by
 obtain ⟨h1,h2,h3⟩:=countR_ok h (m:=16) (by omega)
 obtain ⟨h4,h5⟩:=keysR_ok h1 (countR r 16).1.toNat
 refine ⟨h4,?_⟩
 show (dKeys (countR r 16).1.toNat (countR r 16).2).1.length≤16
 omega
theorem hR_ok {r:Rd} (h:r.Ok):(dH r).2.Ok∧(dH r).1.length=32:=hashR_ok (kR_ok h).1
theorem aR_ok {r:Rd} (h:r.Ok):(dA r).2.Ok∧0≤(dA r).1∧(dA r).1≤1099511627776:=uintR_ok (hR_ok h).1 (by omega)
theorem oR_ok {r:Rd} (h:r.Ok):(dO r).2.Ok∧0≤(dO r).1∧(dO r).1≤65536:=uintR_ok (aR_ok h).1 (by omega)
theorem brsR_ok {r:Rd} (h:r.Ok):∀ k,(dBrs k r).2.Ok∧(dBrs k r).1.length=k
 | 0=>⟨h,rfl⟩
 | k+1=>by
  obtain ⟨h1,h2⟩:=brsR_ok h k
  refine ⟨(oR_ok h1).1,?_⟩
  show ((dBrs k r).1++[(dBr (dBrs k r).2).1]).length=k+1
  rw [List.length_append,h2]
  rfl
theorem both {P:Prop} (h:P):P∧P:=⟨h,h⟩
theorem wr_small {x m:Int} (h:0≤x∧x≤m) (hm:m≤4503599627370496):wr .i64 x=x:=wr64 (by unfold inI64; omega)
end Go.Proofs.YtcglahfmnoghjaaGreatDoor

/-! Bytes and a condition, read back: what is said of them. Conditions: none. -/
namespace Go.Proofs.YtcglahfmnoghjaaGreatDoor
open Go Go.Eng Go.Proofs.Tryz
/-- Told bytes: themselves; what is wrong; how many bytes that takes. -/
def scanB (m:Int):List Int→List Int→Nat→List Int×Int×Nat
 | [],_,_=>([],12,0)
 | c::l,out,i=>if c=0 then (match l with
   | []=>([],12,0)
   | d::l'=>if d=0 then (out,0,i+2) else if d≠255 then ([],3,0) else if (out.length:Int)=m then ([],2,0) else scanB m l' (out++[0]) (i+2))
  else if (out.length:Int)=m then ([],2,0) else scanB m l (out++[c]) (i+1)
def bytesR (r:Rd) (m:Int):List Int×Rd:=if r.e≠0 then ([],r) else if (scanB m r.left [] 0).2.1≠0 then ([],⟨r.b,r.i,(scanB m r.left [] 0).2.1⟩) else ((scanB m r.left [] 0).1,⟨r.b,r.i+((scanB m r.left [] 0).2.2:Int),0⟩)
def rdBytesLS:LS AA where
 X:=RdN
 pre:=RdN.Few
 args:=fun x=>[.ptr 0 0,.int .i64 x.n]
 hin:=fun x=>[rcell x.r]
 res:=fun x=>[.rints .u8 (bytesR x.r x.n).1]
 hout:=fun x=>[rcell (bytesR x.r x.n).2]
structure ScanX where
 i:Nat
 out:List Int
def rdBytesAnn (x:RdN):Anns AA:=fun _ _ sh=>some {
 X:=ScanX
 inv:=fun y=>y.i≤x.r.left.length∧(y.out.length:Int)≤x.n∧scanB x.n x.r.left [] 0=scanB x.n (x.r.left.drop y.i) y.out y.i
 meas:=fun y=>x.r.left.length-y.i
 slots:=fun y=>[(7,.int .i64 y.i),(5,.vec (cnt sh))]
 heap:=fun _=>[]
 more:=fun y=>[.ivec 5 .u8 y.out] }
def L160:List (Nat×SpecT AA):=(67,tLent rdBytesLS rdiGet)::L129
noncomputable def F160:Eng AA:=EF prog L160
theorem F160_eq:F160=EF prog L160:=by
 unfold F160
 rfl
/-- A condition that a reader takes off. -/
def dC (r:Rd):List Br×Rd:=dBrs (countR r 8).1.toNat (countR r 8).2
def takesLS:LS AA where
 X:=Rd
 pre:=Rd.Ok
 args:=fun _=>[.ptr 0 0]
 hin:=fun r=>[rcell r]
 res:=fun r=>[.agg (.cell (.rseq 102 (show List (AA 102) from (dC r).1)) .nil)]
 hout:=fun r=>[rcell (dC r).2]
def takesAnn (r:Rd):Anns AA:=fun k ts sh=>if k=4 then (match nth ts 3 with
  | some (.ptr j _)=>some {
   X:=Nat
   inv:=fun i=>(i:Int)≤(countR r 8).1
   meas:=fun i=>(countR r 8).1.toNat-i
   slots:=fun i=>[(7,.int .i64 i)]
   heap:=fun i=>[(0,rcell (dBrs i (countR r 8).2).2),(j,.cells 55 (.cell (.vec (cnt sh)) .nil))]
   more:=fun i=>[.svec 102 (show List (AA 102) from (dBrs i (countR r 8).2).1)] }
  | _=>none)
 else (match nth ts 4,nth ts 10,rdOf sh (.ptr 0 0) with
  | some (.ptr j _),some (.int _ n),some r=>(match nth sh j with
   | some (.cells t (.cell _ rest))=>some {
    X:=Nat
    inv:=fun i=>(i:Int)≤n
    meas:=fun i=>n.toNat-i
    slots:=fun i=>[(11,.int .i64 i)]
    heap:=fun i=>[(0,rcell (dKeys i r).2),(j,.cells t (.cell (.vec (cnt sh)) rest))]
    more:=fun i=>[.ivec 3 .i64 (dKeys i r).1] }
   | _=>none)
  | _,_,_=>none)
def L161:List (Nat×SpecT AA):=(68,tLent takesLS rdGet)::L160
end Go.Proofs.YtcglahfmnoghjaaGreatDoor

/-! Bytes and a condition, read back: the walks. Conditions: none. -/
namespace Go.Proofs.YtcglahfmnoghjaaGreatDoor
open Go Go.Eng Go.Proofs.Tryz
theorem scan_last {m:Int} {out:List Int} {i:Nat}:scanB m [0] out i=([],12,0):=by
 unfold scanB
 simp
theorem scan_zero {m d:Int} {l out:List Int} {i:Nat}:scanB m (0::d::l) out i=if d=0 then (out,0,i+2) else if d≠255 then ([],3,0) else if (out.length:Int)=m then ([],2,0) else scanB m l (out++[0]) (i+2):=by
 rw [scanB.eq_def]
 simp
theorem scan_byte {m c:Int} {l out:List Int} {i:Nat} (h:c≠0):scanB m (c::l) out i=if (out.length:Int)=m then ([],2,0) else scanB m l (out++[c]) (i+1):=by
 rw [scanB.eq_def]
 simp [h]
theorem bytesR_err {r:Rd} {m n:Int} (he:r.e=0) (h:scanB m r.left [] 0=([],n,0)) (hn:n≠0):bytesR r m=([],⟨r.b,r.i,n⟩):=by
 unfold bytesR
 rw [if_neg (by simp [he]),h,if_pos hn]
theorem bytesR_fine {r:Rd} {m:Int} {out:List Int} {k:Nat} (he:r.e=0) (h:scanB m r.left [] 0=(out,0,k)):bytesR r m=(out,⟨r.b,r.i+(k:Int),0⟩):=by
 unfold bytesR
 rw [if_neg (by simp [he]),h,if_neg (by simp)]
def rdBytesVC:Prop:=∀ (x:RdN),x.Few→True∧((x.r.b=x.r.b∧x.r.i=x.r.i∧x.r.e=x.r.e∧True)∧True)∧True∧(decide (x.r.e≠(0:Int))=true→(bytesR x.r
 x.n).fst=[]∧(((bytesR x.r x.n).snd.b=x.r.b∧(bytesR x.r x.n).snd.i=x.r.i∧(bytesR x.r x.n).snd.e=x.r.e∧True)∧True)∧True)∧(decide
 (x.r.e≠(0:Int))=false→(decide (x.n<(0:Int))=true→(True∧(1:Int)=(1:Int)∧(1:Int)≠(0:Int))∧((x.r.b=x.r.b∧x.r.i =
 x.r.i∧x.r.e=x.r.e∧True)∧True)∧True∧(bytesR x.r x.n).fst=[]∧(((bytesR x.r x.n).snd.b=x.r.b∧(bytesR x.r x.n).snd.i=x.r.i∧((bytesR
 x.r x.n).snd.e=if x.r.e=(0:Int) then (1:Int) else x.r.e)∧True)∧True)∧True)∧(decide (x.n<(0:Int))=false→True∧((x.r.b=x.r.b ∧
 x.r.i=x.r.i∧x.r.e=x.r.e∧True)∧True)∧x.r.Ok∧(∃ (x_1:ScanX),(x_1.i≤x.r.left.length∧(x_1.out.length:Int)≤x.n∧scanB x.n x.r.left [] (0 :
 Nat)=scanB x.n (List.drop x_1.i x.r.left) x_1.out x_1.i)∧((x_1.i:Int)=(0:Int)∧(SV.val (A:=AA) (Value.slice none (0:Nat) (0:Nat)) :
 SV AA)=SV.val (A:=AA) (Value.slice none (0:Nat) (0:Nat)))∧((x.r.b=x.r.b∧x.r.i=x.r.i∧x.r.e=x.r.e∧True)∧True)∧x_1.out=[] ∧
 True)∧∀ (x_1:ScanX),x_1.i≤x.r.left.length∧(x_1.out.length:Int)≤x.n∧scanB x.n x.r.left [] (0:Nat)=scanB x.n (List.drop x_1.i
 x.r.left) x_1.out x_1.i→(x.r.left.length:Int)≤(9223372036854775807:Int)→(decide ((x_1.i:Int)<(x.r.left.length:Int))=true→(0 :
 Int)≤(x_1.i:Int)∧(x_1.i:Int)<(x.r.left.length:Int)∧(x_1.i:Int).toNat<x.r.left.length∧((x.r.left.getD (x_1.i:Int).toNat (0 :
 Int)==(0:Int))=true→inI64 ((x_1.i:Int)+(1:Int))∧((x.r.left.length:Int)≤(9223372036854775807:Int)→(((x_1.i:Int)+(1:Int)
 == (x.r.left.length:Int))=true→(True∧(12:Int)=(12:Int)∧(12:Int)≠(0:Int))∧((x.r.b=x.r.b∧x.r.i=x.r.i∧x.r.e=x.r.e ∧
 True)∧True)∧True∧(bytesR x.r x.n).fst=[]∧(((bytesR x.r x.n).snd.b=x.r.b∧(bytesR x.r x.n).snd.i=x.r.i∧((bytesR x.r x.n).snd.e=if
 x.r.e=(0:Int) then (12:Int) else x.r.e)∧True)∧True)∧True)∧(((x_1.i:Int)+(1:Int)==(x.r.left.length:Int))=false→(0:Int) ≤
 (x_1.i:Int)+(1:Int)∧(x_1.i:Int)+(1:Int)<(x.r.left.length:Int)∧((x_1.i:Int)+(1:Int)).toNat<x.r.left.length ∧
 ((x.r.left.getD ((x_1.i:Int)+(1:Int)).toNat (0:Int)==(0:Int))=true→inI64 ((x_1.i:Int)+(1:Int)+(1:Int))∧inI64 (x.r.i +
 ((x_1.i:Int)+(1:Int)+(1:Int)))∧(bytesR x.r x.n).fst=x_1.out∧(((bytesR x.r x.n).snd.b=x.r.b∧(bytesR x.r x.n).snd.i=x.r.i +
 ((x_1.i:Int)+(1:Int)+(1:Int))∧(bytesR x.r x.n).snd.e=x.r.e∧True)∧True)∧True)∧((x.r.left.getD ((x_1.i:Int)+(1:Int)).toNat
 (0:Int)==(0:Int))=false→(0:Int)≤(x_1.i:Int)+(1:Int)∧(x_1.i:Int)+(1:Int)<(x.r.left.length:Int)∧((x_1.i:Int)+(1
 : Int)).toNat<x.r.left.length∧((x.r.left.getD ((x_1.i:Int)+(1:Int)).toNat (0:Int) != (255:Int))=true→(True∧(3:Int)=(3:Int) ∧
 (3:Int)≠(0:Int))∧((x.r.b=x.r.b∧x.r.i=x.r.i∧x.r.e=x.r.e∧True)∧True)∧True∧(bytesR x.r x.n).fst=[]∧(((bytesR x.r x.n).snd.b
 = x.r.b∧(bytesR x.r x.n).snd.i=x.r.i∧((bytesR x.r x.n).snd.e=if x.r.e=(0:Int) then (3:Int) else x.r.e)∧True)∧True)∧True) ∧
 ((x.r.left.getD ((x_1.i:Int)+(1:Int)).toNat (0:Int) != (255:Int))=false→(x_1.out.length:Int)≤(9223372036854775807:Int) →
 (((x_1.out.length:Int)==x.n)=true→(True∧(2:Int)=(2:Int)∧(2:Int)≠(0:Int))∧((x.r.b=x.r.b∧x.r.i=x.r.i∧x.r.e=x.r.e ∧
 True)∧True)∧True∧(bytesR x.r x.n).fst=[]∧(((bytesR x.r x.n).snd.b=x.r.b∧(bytesR x.r x.n).snd.i=x.r.i∧((bytesR x.r x.n).snd.e=if
 x.r.e=(0:Int) then (2:Int) else x.r.e)∧True)∧True)∧True)∧(((x_1.out.length:Int)==x.n)=false→(x_1.out.length+[x.r.left.getD
 (x_1.i:Int).toNat (0:Int)].length)*(1:Nat)≤(140737488355328:Nat)∧x_1.out.length+[x.r.left.getD (x_1.i:Int).toNat (0:Int)].length
 ≤ (1152921504606846976:Nat)∧inI64 ((x_1.i:Int)+(1:Int)+(1:Int))∧∃ (y:ScanX),(y.i≤x.r.left.length∧(y.out.length:Int)≤x.n∧scanB x.n
 x.r.left [] (0:Nat)=scanB x.n (List.drop y.i x.r.left) y.out y.i)∧x.r.left.length-y.i<x.r.left.length-x_1.i∧((y.i:Int)=(↑x_1.i :
 Int)+(1:Int)+(1:Int)∧True)∧((x.r.b=x.r.b∧x.r.i=x.r.i∧x.r.e=x.r.e∧True)∧True)∧y.out=x_1.out++[x.r.left.getD (↑x_1.i :
 Int).toNat (0:Int)]∧True))))))∧((x.r.left.getD (x_1.i:Int).toNat (0:Int)==(0:Int))=false→(x_1.out.length:Int) ≤
 (9223372036854775807:Int)→(((x_1.out.length:Int)==x.n)=true→(True∧(2:Int)=(2:Int)∧(2:Int)≠(0:Int))∧((x.r.b=x.r.b ∧
 x.r.i=x.r.i∧x.r.e=x.r.e∧True)∧True)∧True∧(bytesR x.r x.n).fst=[]∧(((bytesR x.r x.n).snd.b=x.r.b∧(bytesR x.r x.n).snd.i=x.r.i ∧
 ((bytesR x.r x.n).snd.e=if x.r.e=(0:Int) then (2:Int) else x.r.e)∧True)∧True)∧True)∧(((x_1.out.length:Int)==x.n)=false →
 (x_1.out.length+[x.r.left.getD (x_1.i:Int).toNat (0:Int)].length)*(1:Nat)≤(140737488355328:Nat)∧x_1.out.length+[x.r.left.getD
 (x_1.i:Int).toNat (0:Int)].length≤(1152921504606846976:Nat)∧inI64 ((x_1.i:Int)+(1:Int))∧∃ (y:ScanX),(y.i≤x.r.left.length ∧
 (y.out.length:Int)≤x.n∧scanB x.n x.r.left [] (0:Nat)=scanB x.n (List.drop y.i x.r.left) y.out y.i)∧x.r.left.length-y.i<x.r.left.length
 - x_1.i∧((y.i:Int)=(x_1.i:Int)+(1:Int)∧True)∧((x.r.b=x.r.b∧x.r.i=x.r.i∧x.r.e=x.r.e∧True)∧True)∧y.out=x_1.out ++
 [x.r.left.getD (x_1.i:Int).toNat (0:Int)]∧True)))∧(decide ((x_1.i:Int)<(x.r.left.length:Int))=false→(True∧(12:Int)=(12 :
 Int)∧(12:Int)≠(0:Int))∧((x.r.b=x.r.b∧x.r.i=x.r.i∧x.r.e=x.r.e∧True)∧True)∧True∧(bytesR x.r x.n).fst=[]∧(((bytesR x.r
 x.n).snd.b=x.r.b∧(bytesR x.r x.n).snd.i=x.r.i∧((bytesR x.r x.n).snd.e=if x.r.e=(0:Int) then (12:Int) else x.r.e)∧True)∧True) ∧
 True)))
theorem rdBytes_eq:rdBytesVC=fnS F129 f67 (bodyOf f67) rdBytesLS rdBytesAnn:=by kernel_rfl
theorem rdBytes_vc:rdBytesVC:=by
 rintro ⟨⟨b,i0,e⟩,m⟩ hx
 have hr:=hx.r
 have hm:=hx.lo
 have hm2:=hx.hi
 simp only at hr hm hm2
 by_cases he:e=0
 case neg=>simp [bytesR,he]
 subst he
 have hl:=left_len _ hr
 have hlen:=hr.len
 have hlo:=hr.lo
 simp only at hl hlen hlo
 have err:∀ n:Int,n≠0→scanB m (Rd.mk b i0 0).left [] 0=([],n,0)→(True∧n=n∧n≠0)∧((b=b∧i0=i0∧(0:Int)=0∧True)∧True)∧True∧(bytesR (Rd.mk b i0 0) m).fst=[]∧(((bytesR (Rd.mk b i0 0) m).snd.b=b∧(bytesR (Rd.mk b i0 0) m).snd.i=i0∧((bytesR (Rd.mk b i0 0) m).snd.e=if (0:Int)=0 then n else 0)∧True)∧True)∧True:=fun n hn h=>by
  rw [bytesR_err rfl h hn]
  exact ⟨⟨trivial,rfl,hn⟩,⟨⟨rfl,rfl,rfl,trivial⟩,trivial⟩,trivial,rfl,⟨⟨rfl,rfl,rfl,trivial⟩,trivial⟩,trivial⟩
 refine ⟨trivial,⟨⟨rfl,rfl,rfl,trivial⟩,trivial⟩,trivial,fun h=>by simp at h,fun _=>⟨fun h=>by simp at h; omega,fun _=>⟨trivial,⟨⟨rfl,rfl,rfl,trivial⟩,trivial⟩,hr,⟨⟨0,[]⟩,⟨Nat.zero_le _,by simpa using hm,rfl⟩,⟨rfl,rfl⟩,⟨⟨rfl,rfl,rfl,trivial⟩,trivial⟩,rfl,trivial⟩,?_⟩⟩⟩
 rintro y ⟨hi,ho,hs⟩ _
 simp only at hi ho hs
 generalize y.i=i at hi ho hs ⊢
 generalize y.out=out at hi ho hs ⊢
 refine ⟨fun h=>?_,fun h=>?_⟩
 case refine_2=>
  simp only [decide_eq_false_iff_not] at h
  exact err 12 (by omega) (by rw [hs,List.drop_of_length_le (by omega)]; rfl)
 simp only [decide_eq_true_eq] at h
 have hi':i<(Rd.mk b i0 0).left.length:=by omega
 rw [drop_at hi'] at hs
 refine ⟨by omega,h,hi',fun h0=>⟨by unfold inI64; omega,fun _=>⟨fun h1=>?_,fun h1=>?_⟩⟩,fun h0 _=>⟨fun h3=>?_,fun h3=>?_⟩⟩
 ·have h0':(Rd.mk b i0 0).left.getD i 0=0:=by simpa using h0
  have h1':(i:Int)+1=(Rd.mk b i0 0).left.length:=by simpa using h1
  rw [h0',List.drop_of_length_le (by omega),scan_last] at hs
  exact err 12 (by omega) hs
 ·have h0':(Rd.mk b i0 0).left.getD i 0=0:=by simpa using h0
  have h1':¬(i:Int)+1=(Rd.mk b i0 0).left.length:=by simpa using h1
  have hj:i+1<(Rd.mk b i0 0).left.length:=by omega
  have ej:((i:Int)+1).toNat=i+1:=by omega
  rw [h0',drop_at hj,scan_zero] at hs
  rw [ej]
  have a1:(0:Int)≤(i:Int)+1:=by omega
  have a2:(i:Int)+1<((Rd.mk b i0 0).left.length:Int):=by omega
  have a3:inI64 ((i:Int)+1+1):=by unfold inI64; omega
  have a4:inI64 (i0+((i:Int)+1+1)):=by unfold inI64; omega
  refine ⟨a1,a2,hj,fun h2=>⟨a3,a4,?_⟩,fun h2=>⟨a1,a2,hj,fun h3=>?_,fun h3 _=>⟨fun h4=>?_,fun h4=>?_⟩⟩⟩
  ·have h2':(Rd.mk b i0 0).left.getD (i+1) 0=0:=by simpa using h2
   rw [if_pos h2'] at hs
   rw [bytesR_fine rfl hs]
   exact ⟨rfl,⟨⟨rfl,by simp only; omega,rfl,trivial⟩,trivial⟩,trivial⟩
  ·have h2':¬(Rd.mk b i0 0).left.getD (i+1) 0=0:=by simpa using h2
   have h3':(Rd.mk b i0 0).left.getD (i+1) 0≠255:=by simpa using h3
   rw [if_neg h2',if_pos h3'] at hs
   exact err 3 (by omega) hs
  ·have h2':¬(Rd.mk b i0 0).left.getD (i+1) 0=0:=by simpa using h2
   have h3':¬(Rd.mk b i0 0).left.getD (i+1) 0≠255:=by simpa using h3
   have h4':(out.length:Int)=m:=by simpa using h4
   rw [if_neg h2',if_neg h3',if_pos h4'] at hs
   exact err 2 (by omega) hs
  ·have h2':¬(Rd.mk b i0 0).left.getD (i+1) 0=0:=by simpa using h2
   have h3':¬(Rd.mk b i0 0).left.getD (i+1) 0≠255:=by simpa using h3
   have h4':¬(out.length:Int)=m:=by simpa using h4
   rw [if_neg h2',if_neg h3',if_neg h4'] at hs
   refine ⟨by simp only [List.length_singleton]; omega,by simp only [List.length_singleton]; omega,by unfold inI64; omega,⟨i+2,out++[0]⟩,⟨by simp only; omega,by simp only [List.length_append,List.length_singleton]; omega,hs⟩,by simp only; omega,⟨by simp only; omega,trivial⟩,⟨⟨rfl,rfl,rfl,trivial⟩,trivial⟩,?_,trivial⟩
   show out++[0]=out++[(Rd.mk b i0 0).left.getD i 0]
   rw [h0']
 ·have h0':(Rd.mk b i0 0).left.getD i 0≠0:=by simpa using h0
  have h3':(out.length:Int)=m:=by simpa using h3
  rw [scan_byte h0',if_pos h3'] at hs
  exact err 2 (by omega) hs
 ·have h0':(Rd.mk b i0 0).left.getD i 0≠0:=by simpa using h0
  have h3':¬(out.length:Int)=m:=by simpa using h3
  rw [scan_byte h0',if_neg h3'] at hs
  exact ⟨by simp only [List.length_singleton]; omega,by simp only [List.length_singleton]; omega,by unfold inI64; omega,⟨i+1,out++[(Rd.mk b i0 0).left.getD i 0]⟩,⟨hi',by simp only [List.length_append,List.length_singleton]; omega,hs⟩,by simp only; omega,⟨by simp only; omega,trivial⟩,⟨⟨rfl,rfl,rfl,trivial⟩,trivial⟩,rfl,trivial⟩
theorem rdBytes_ok:Fits F129 f67 (bodyOf f67) rdBytesLS rdBytesAnn:=by
 constructor
 rw [← rdBytes_eq]
 exact rdBytes_vc
theorem rdBytes_has:Has prog 67 f67 (bodyOf f67):=⟨by kernel_rfl,by kernel_rfl,by kernel_rfl⟩
theorem known160:Known prog L160:=by
 unfold L160
 exact known129.lent mixed rdBytes_has F129_eq rdBytes_ok (fun _ _=>Nat.le_refl _) (fun h=>by cases h)
def takesVC:Prop:=∀ (x:Rd),x.Ok→(True∧(8:Int)=(8:Int))∧((x.b=x.b∧x.i=x.i∧x.e=x.e∧True)∧True)∧(RdN.mk x (8:Int)).Few∧(∃ (x_1:Nat),((countR x
 (8:Int)).fst-(x_1:Int)).NonNeg∧(x_1:Int)=(0:Int)∧(((dBrs x_1 (countR x (8:Int)).snd).snd.b=(countR x (8:Int)).snd.b∧(dBrs x_1
 (countR x (8:Int)).snd).snd.i=(countR x (8:Int)).snd.i∧(dBrs x_1 (countR x (8:Int)).snd).snd.e=(countR x (8:Int)).snd.e∧True) ∧
 ((SV.val (A:=AA) (Value.slice none (0:Nat) (0:Nat)):SV AA)=SV.val (A:=AA) (Value.slice none (0:Nat) (0:Nat))∧True)∧((SV.val (A:=
 AA) (Value.slice none (0:Nat) (0:Nat)):SV AA)=SV.val (A:=AA) (Value.slice none (0:Nat) (0:Nat))∧True)∧True)∧(dBrs x_1 (countR x (8
 : Int)).snd).fst=[]∧True)∧∀ (x_1:Nat),((countR x (8:Int)).fst-(x_1:Int)).NonNeg→(decide ((x_1:Int)<(countR x (8:Int)).fst) =
 true→(True∧(16:Int)=(16:Int))∧(((dBrs x_1 (countR x (8:Int)).snd).snd.b=(dBrs x_1 (countR x (8:Int)).snd).snd.b∧(dBrs x_1 (countR x
 (8:Int)).snd).snd.i=(dBrs x_1 (countR x (8:Int)).snd).snd.i∧(dBrs x_1 (countR x (8:Int)).snd).snd.e=(dBrs x_1 (countR x (8 :
 Int)).snd).snd.e∧True)∧True)∧(RdN.mk (dBrs x_1 (countR x (8:Int)).snd).snd (16:Int)).Few∧(∃ (x_2:Nat),((countR (dBrs x_1 (countR x (8 :
 Int)).snd).snd (16:Int)).fst-(x_2:Int)).NonNeg∧(x_2:Int)=(0:Int)∧(((dKeys x_2 (countR (dBrs x_1 (countR x (8:Int)).snd).snd (16 :
 Int)).snd).snd.b=(countR (dBrs x_1 (countR x (8:Int)).snd).snd (16:Int)).snd.b∧(dKeys x_2 (countR (dBrs x_1 (countR x (8:Int)).snd).snd (16 :
 Int)).snd).snd.i=(countR (dBrs x_1 (countR x (8:Int)).snd).snd (16:Int)).snd.i∧(dKeys x_2 (countR (dBrs x_1 (countR x (8:Int)).snd).snd (16 :
 Int)).snd).snd.e=(countR (dBrs x_1 (countR x (8:Int)).snd).snd (16:Int)).snd.e∧True)∧((SV.val (A:=AA) (Value.slice none (0:Nat) (0 :
 Nat)):SV AA)=SV.val (A:=AA) (Value.slice none (0:Nat) (0:Nat))∧True)∧(True∧True)∧(dBrs x_1 (countR x (8:Int)).snd).fst=(dBrs x_1
 (countR x (8:Int)).snd).fst∧((SV.val (A:=AA) (Value.slice none (0:Nat) (0:Nat)):SV AA)=SV.val (A:=AA) (Value.slice none (0:Nat) (0 :
 Nat))∧List.replicate (32:Nat) (0:Int)=List.replicate (32:Nat) (0:Int)∧(0:Int)=(0:Int)∧(0:Int)=(0:Int)∧True)∧True) ∧
 (dKeys x_2 (countR (dBrs x_1 (countR x (8:Int)).snd).snd (16:Int)).snd).fst=[]∧True)∧∀ (x_2:Nat),((countR (dBrs x_1 (countR x (8 :
 Int)).snd).snd (16:Int)).fst-(x_2:Int)).NonNeg→(decide ((x_2:Int)<(countR (dBrs x_1 (countR x (8:Int)).snd).snd (16:Int)).fst)=true
 → ((True∧(16:Int)=(16:Int))∧(((dKeys x_2 (countR (dBrs x_1 (countR x (8:Int)).snd).snd (16:Int)).snd).snd.b=(dKeys x_2 (countR (dBrs
 x_1 (countR x (8:Int)).snd).snd (16:Int)).snd).snd.b∧(dKeys x_2 (countR (dBrs x_1 (countR x (8:Int)).snd).snd (16:Int)).snd).snd.i=(dKeys
 x_2 (countR (dBrs x_1 (countR x (8:Int)).snd).snd (16:Int)).snd).snd.i∧(dKeys x_2 (countR (dBrs x_1 (countR x (8:Int)).snd).snd (16 :
 Int)).snd).snd.e=(dKeys x_2 (countR (dBrs x_1 (countR x (8:Int)).snd).snd (16:Int)).snd).snd.e∧True)∧True)∧(RdN.mk (dKeys x_2 (countR (dBrs
 x_1 (countR x (8:Int)).snd).snd (16:Int)).snd).snd (16:Int)).Ok∧((dKeys x_2 (countR (dBrs x_1 (countR x (8:Int)).snd).snd (16 :
 Int)).snd).fst.length+[wr IntKind.i64 (uintR (dKeys x_2 (countR (dBrs x_1 (countR x (8:Int)).snd).snd (16:Int)).snd).snd (16:Int)).fst].length)
 * (8:Nat)≤(140737488355328:Nat)∧(dKeys x_2 (countR (dBrs x_1 (countR x (8:Int)).snd).snd (16:Int)).snd).fst.length+[wr IntKind.i64 (uintR
 (dKeys x_2 (countR (dBrs x_1 (countR x (8:Int)).snd).snd (16:Int)).snd).snd (16:Int)).fst].length≤(1152921504606846976:Nat)∧inI64 ((↑x_2 :
 Int)+(1:Int))∧∃ (y:Nat),((countR (dBrs x_1 (countR x (8:Int)).snd).snd (16:Int)).fst-(y:Int)).NonNeg∧(countR (dBrs x_1 (countR x (8 :
 Int)).snd).snd (16:Int)).fst.toNat-y<(countR (dBrs x_1 (countR x (8:Int)).snd).snd (16:Int)).fst.toNat-x_2∧(y:Int)=(x_2:Int)+(1
 : Int)∧(((dKeys y (countR (dBrs x_1 (countR x (8:Int)).snd).snd (16:Int)).snd).snd.b=(uintR (dKeys x_2 (countR (dBrs x_1 (countR x (8 :
 Int)).snd).snd (16:Int)).snd).snd (16:Int)).snd.b∧(dKeys y (countR (dBrs x_1 (countR x (8:Int)).snd).snd (16:Int)).snd).snd.i=(uintR (dKeys
 x_2 (countR (dBrs x_1 (countR x (8:Int)).snd).snd (16:Int)).snd).snd (16:Int)).snd.i∧(dKeys y (countR (dBrs x_1 (countR x (8:Int)).snd).snd
 (16:Int)).snd).snd.e=(uintR (dKeys x_2 (countR (dBrs x_1 (countR x (8:Int)).snd).snd (16:Int)).snd).snd (16:Int)).snd.e∧True)∧((SV.val (A
 := AA) (Value.slice none (0:Nat) (0:Nat)):SV AA)=SV.val (A:=AA) (Value.slice none (0:Nat) (0:Nat))∧True)∧(True∧True)∧(dBrs x_1
 (countR x (8:Int)).snd).fst=(dBrs x_1 (countR x (8:Int)).snd).fst∧(True∧List.replicate (32:Nat) (0:Int)=List.replicate (32:Nat) (0 :
 Int)∧(0:Int)=(0:Int)∧(0:Int)=(0:Int)∧True)∧True)∧(dKeys y (countR (dBrs x_1 (countR x (8:Int)).snd).snd (16:Int)).snd).fst =
 (dKeys x_2 (countR (dBrs x_1 (countR x (8:Int)).snd).snd (16:Int)).snd).fst++[wr IntKind.i64 (uintR (dKeys x_2 (countR (dBrs x_1 (countR x (8 :
 Int)).snd).snd (16:Int)).snd).snd (16:Int)).fst]∧True)∧(True∧(16:Int)=(16:Int))∧(((dKeys x_2 (countR (dBrs x_1 (countR x (8 :
 Int)).snd).snd (16:Int)).snd).snd.b=(dKeys x_2 (countR (dBrs x_1 (countR x (8:Int)).snd).snd (16:Int)).snd).snd.b∧(dKeys x_2 (countR (dBrs
 x_1 (countR x (8:Int)).snd).snd (16:Int)).snd).snd.i=(dKeys x_2 (countR (dBrs x_1 (countR x (8:Int)).snd).snd (16:Int)).snd).snd.i∧(dKeys
 x_2 (countR (dBrs x_1 (countR x (8:Int)).snd).snd (16:Int)).snd).snd.e=(dKeys x_2 (countR (dBrs x_1 (countR x (8:Int)).snd).snd (16 :
 Int)).snd).snd.e∧True)∧True)∧(RdN.mk (dKeys x_2 (countR (dBrs x_1 (countR x (8:Int)).snd).snd (16:Int)).snd).snd (16:Int)).Ok∧((dKeys x_2
 (countR (dBrs x_1 (countR x (8:Int)).snd).snd (16:Int)).snd).fst.length+[wr IntKind.i64 (uintR (dKeys x_2 (countR (dBrs x_1 (countR x (8 :
 Int)).snd).snd (16:Int)).snd).snd (16:Int)).fst].length)*(8:Nat)≤(140737488355328:Nat)∧(dKeys x_2 (countR (dBrs x_1 (countR x (8 :
 Int)).snd).snd (16:Int)).snd).fst.length+[wr IntKind.i64 (uintR (dKeys x_2 (countR (dBrs x_1 (countR x (8:Int)).snd).snd (16:Int)).snd).snd (16
 : Int)).fst].length≤(1152921504606846976:Nat)∧inI64 ((x_2:Int)+(1:Int))∧∃ (y:Nat),((countR (dBrs x_1 (countR x (8:Int)).snd).snd (16 :
 Int)).fst-(y:Int)).NonNeg∧(countR (dBrs x_1 (countR x (8:Int)).snd).snd (16:Int)).fst.toNat-y<(countR (dBrs x_1 (countR x (8 :
 Int)).snd).snd (16:Int)).fst.toNat-x_2∧(y:Int)=(x_2:Int)+(1:Int)∧(((dKeys y (countR (dBrs x_1 (countR x (8:Int)).snd).snd (16 :
 Int)).snd).snd.b=(uintR (dKeys x_2 (countR (dBrs x_1 (countR x (8:Int)).snd).snd (16:Int)).snd).snd (16:Int)).snd.b∧(dKeys y (countR (dBrs
 x_1 (countR x (8:Int)).snd).snd (16:Int)).snd).snd.i=(uintR (dKeys x_2 (countR (dBrs x_1 (countR x (8:Int)).snd).snd (16:Int)).snd).snd (16 :
 Int)).snd.i∧(dKeys y (countR (dBrs x_1 (countR x (8:Int)).snd).snd (16:Int)).snd).snd.e=(uintR (dKeys x_2 (countR (dBrs x_1 (countR x (8 :
 Int)).snd).snd (16:Int)).snd).snd (16:Int)).snd.e∧True)∧((SV.val (A:=AA) (Value.slice none (0:Nat) (0:Nat)):SV AA)=SV.val (A:=AA)
 (Value.slice none (0:Nat) (0:Nat))∧True)∧(True∧True)∧(dBrs x_1 (countR x (8:Int)).snd).fst=(dBrs x_1 (countR x (8:Int)).snd).fst ∧
 (True∧List.replicate (32:Nat) (0:Int)=List.replicate (32:Nat) (0:Int)∧(0:Int)=(0:Int)∧(0:Int)=(0:Int)∧True)∧True) ∧
 (dKeys y (countR (dBrs x_1 (countR x (8:Int)).snd).snd (16:Int)).snd).fst=(dKeys x_2 (countR (dBrs x_1 (countR x (8:Int)).snd).snd (16 :
 Int)).snd).fst++[wr IntKind.i64 (uintR (dKeys x_2 (countR (dBrs x_1 (countR x (8:Int)).snd).snd (16:Int)).snd).snd (16:Int)).fst]∧True) ∧
 (decide ((x_2:Int)<(countR (dBrs x_1 (countR x (8:Int)).snd).snd (16:Int)).fst)=false→True∧(((dKeys x_2 (countR (dBrs x_1 (countR x (8 :
 Int)).snd).snd (16:Int)).snd).snd.b=(dKeys x_2 (countR (dBrs x_1 (countR x (8:Int)).snd).snd (16:Int)).snd).snd.b∧(dKeys x_2 (countR (dBrs
 x_1 (countR x (8:Int)).snd).snd (16:Int)).snd).snd.i=(dKeys x_2 (countR (dBrs x_1 (countR x (8:Int)).snd).snd (16:Int)).snd).snd.i∧(dKeys
 x_2 (countR (dBrs x_1 (countR x (8:Int)).snd).snd (16:Int)).snd).snd.e=(dKeys x_2 (countR (dBrs x_1 (countR x (8:Int)).snd).snd (16 :
 Int)).snd).snd.e∧True)∧True)∧(dKeys x_2 (countR (dBrs x_1 (countR x (8:Int)).snd).snd (16:Int)).snd).snd.Ok∧(True∧(1099511627776:Int) =
 (1099511627776:Int))∧(((hashR (dKeys x_2 (countR (dBrs x_1 (countR x (8:Int)).snd).snd (16:Int)).snd).snd).snd.b=(hashR (dKeys x_2 (countR
 (dBrs x_1 (countR x (8:Int)).snd).snd (16:Int)).snd).snd).snd.b∧(hashR (dKeys x_2 (countR (dBrs x_1 (countR x (8:Int)).snd).snd (16 :
 Int)).snd).snd).snd.i=(hashR (dKeys x_2 (countR (dBrs x_1 (countR x (8:Int)).snd).snd (16:Int)).snd).snd).snd.i∧(hashR (dKeys x_2 (countR (dBrs
 x_1 (countR x (8:Int)).snd).snd (16:Int)).snd).snd).snd.e=(hashR (dKeys x_2 (countR (dBrs x_1 (countR x (8:Int)).snd).snd (16 :
 Int)).snd).snd).snd.e∧True)∧True)∧(RdN.mk (hashR (dKeys x_2 (countR (dBrs x_1 (countR x (8:Int)).snd).snd (16:Int)).snd).snd).snd
 (1099511627776:Int)).Ok∧(True∧(65536:Int)=(65536:Int))∧(((uintR (hashR (dKeys x_2 (countR (dBrs x_1 (countR x (8:Int)).snd).snd (16 :
 Int)).snd).snd).snd (1099511627776:Int)).snd.b=(uintR (hashR (dKeys x_2 (countR (dBrs x_1 (countR x (8:Int)).snd).snd (16:Int)).snd).snd).snd
 (1099511627776:Int)).snd.b∧(uintR (hashR (dKeys x_2 (countR (dBrs x_1 (countR x (8:Int)).snd).snd (16:Int)).snd).snd).snd (1099511627776 :
 Int)).snd.i=(uintR (hashR (dKeys x_2 (countR (dBrs x_1 (countR x (8:Int)).snd).snd (16:Int)).snd).snd).snd (1099511627776:Int)).snd.i∧(uintR
 (hashR (dKeys x_2 (countR (dBrs x_1 (countR x (8:Int)).snd).snd (16:Int)).snd).snd).snd (1099511627776:Int)).snd.e=(uintR (hashR (dKeys x_2
 (countR (dBrs x_1 (countR x (8:Int)).snd).snd (16:Int)).snd).snd).snd (1099511627776:Int)).snd.e∧True)∧True)∧(RdN.mk (uintR (hashR (dKeys
 x_2 (countR (dBrs x_1 (countR x (8:Int)).snd).snd (16:Int)).snd).snd).snd (1099511627776:Int)).snd (65536:Int)).Ok∧((dKeys x_2 (countR (dBrs
 x_1 (countR x (8:Int)).snd).snd (16:Int)).snd).fst=(dKeys x_2 (countR (dBrs x_1 (countR x (8:Int)).snd).snd (16:Int)).snd).fst∧(hashR
 (dKeys x_2 (countR (dBrs x_1 (countR x (8:Int)).snd).snd (16:Int)).snd).snd).fst=(hashR (dKeys x_2 (countR (dBrs x_1 (countR x (8 :
 Int)).snd).snd (16:Int)).snd).snd).fst∧wr IntKind.i64 (uintR (hashR (dKeys x_2 (countR (dBrs x_1 (countR x (8:Int)).snd).snd (16 :
 Int)).snd).snd).snd (1099511627776:Int)).fst=wr IntKind.i64 (uintR (hashR (dKeys x_2 (countR (dBrs x_1 (countR x (8:Int)).snd).snd (16 :
 Int)).snd).snd).snd (1099511627776:Int)).fst∧wr IntKind.i64 (uintR (uintR (hashR (dKeys x_2 (countR (dBrs x_1 (countR x (8:Int)).snd).snd (16 :
 Int)).snd).snd).snd (1099511627776:Int)).snd (65536:Int)).fst=wr IntKind.i64 (uintR (uintR (hashR (dKeys x_2 (countR (dBrs x_1 (countR x (8 :
 Int)).snd).snd (16:Int)).snd).snd).snd (1099511627776:Int)).snd (65536:Int)).fst∧True)∧((dBrs x_1 (countR x (8:Int)).snd).fst.length +
 [Br.mk (dKeys x_2 (countR (dBrs x_1 (countR x (8:Int)).snd).snd (16:Int)).snd).fst (hashR (dKeys x_2 (countR (dBrs x_1 (countR x (8 :
 Int)).snd).snd (16:Int)).snd).snd).fst (wr IntKind.i64 (uintR (hashR (dKeys x_2 (countR (dBrs x_1 (countR x (8:Int)).snd).snd (16 :
 Int)).snd).snd).snd (1099511627776:Int)).fst) (wr IntKind.i64 (uintR (uintR (hashR (dKeys x_2 (countR (dBrs x_1 (countR x (8:Int)).snd).snd (16 :
 Int)).snd).snd).snd (1099511627776:Int)).snd (65536:Int)).fst)].length)*(72:Nat)≤(140737488355328:Nat)∧(dBrs x_1 (countR x (8 :
 Int)).snd).fst.length+[Br.mk (dKeys x_2 (countR (dBrs x_1 (countR x (8:Int)).snd).snd (16:Int)).snd).fst (hashR (dKeys x_2 (countR (dBrs x_1
 (countR x (8:Int)).snd).snd (16:Int)).snd).snd).fst (wr IntKind.i64 (uintR (hashR (dKeys x_2 (countR (dBrs x_1 (countR x (8:Int)).snd).snd (16 :
 Int)).snd).snd).snd (1099511627776:Int)).fst) (wr IntKind.i64 (uintR (uintR (hashR (dKeys x_2 (countR (dBrs x_1 (countR x (8:Int)).snd).snd (16 :
 Int)).snd).snd).snd (1099511627776:Int)).snd (65536:Int)).fst)].length≤(1152921504606846976:Nat)∧inI64 ((x_1:Int)+(1:Int))∧∃ (y:Nat),
 ((countR x (8:Int)).fst-(y:Int)).NonNeg∧(countR x (8:Int)).fst.toNat-y<(countR x (8:Int)).fst.toNat-x_1∧(y:Int)=(x_1:Int)
 + (1:Int)∧(((dBrs y (countR x (8:Int)).snd).snd.b=(uintR (uintR (hashR (dKeys x_2 (countR (dBrs x_1 (countR x (8:Int)).snd).snd (16 :
 Int)).snd).snd).snd (1099511627776:Int)).snd (65536:Int)).snd.b∧(dBrs y (countR x (8:Int)).snd).snd.i=(uintR (uintR (hashR (dKeys x_2 (countR
 (dBrs x_1 (countR x (8:Int)).snd).snd (16:Int)).snd).snd).snd (1099511627776:Int)).snd (65536:Int)).snd.i∧(dBrs y (countR x (8 :
 Int)).snd).snd.e=(uintR (uintR (hashR (dKeys x_2 (countR (dBrs x_1 (countR x (8:Int)).snd).snd (16:Int)).snd).snd).snd (1099511627776:Int)).snd
 (65536:Int)).snd.e∧True)∧(SV.val (A:=AA) (Value.slice none (0:Nat) (0:Nat))=SV.val (A:=AA) (Value.slice none (0:Nat) (0:Nat)) ∧
 True)∧(True∧True)∧True)∧(dBrs y (countR x (8:Int)).snd).fst=(dBrs x_1 (countR x (8:Int)).snd).fst++[Br.mk (dKeys x_2 (countR (dBrs x_1
 (countR x (8:Int)).snd).snd (16:Int)).snd).fst (hashR (dKeys x_2 (countR (dBrs x_1 (countR x (8:Int)).snd).snd (16:Int)).snd).snd).fst (wr
 IntKind.i64 (uintR (hashR (dKeys x_2 (countR (dBrs x_1 (countR x (8:Int)).snd).snd (16:Int)).snd).snd).snd (1099511627776:Int)).fst) (wr
 IntKind.i64 (uintR (uintR (hashR (dKeys x_2 (countR (dBrs x_1 (countR x (8:Int)).snd).snd (16:Int)).snd).snd).snd (1099511627776:Int)).snd (65536
 : Int)).fst)]∧True))∧(decide ((x_1:Int)<(countR x (8:Int)).fst)=false→((dC x).fst=(dBrs x_1 (countR x (8:Int)).snd).fst∧True) ∧
 (((dC x).snd.b=(dBrs x_1 (countR x (8:Int)).snd).snd.b∧(dC x).snd.i=(dBrs x_1 (countR x (8:Int)).snd).snd.i∧(dC x).snd.e=(dBrs x_1
 (countR x (8:Int)).snd).snd.e∧True)∧True)∧True)
theorem takes_eq:takesVC=fnS F160 f68 (bodyOf f68) takesLS takesAnn:=by kernel_rfl
theorem takes_vc:takesVC:=by
 intro x h0
 have few:∀ {r:Rd},r.Ok→∀ {m:Int},0≤m→m≤1000→(RdN.mk r m).Few:=fun hr m h1 h2=>⟨⟨hr,h1⟩,by show m≤1000000; omega⟩
 obtain ⟨c1,c2,c3⟩:=countR_ok h0 (m:=8) (by omega)
 refine ⟨⟨trivial,rfl⟩,⟨⟨rfl,rfl,rfl,trivial⟩,trivial⟩,few h0 (by omega) (by omega),⟨0,?_,rfl,⟨⟨rfl,rfl,rfl,trivial⟩,⟨rfl,trivial⟩,⟨rfl,trivial⟩,trivial⟩,rfl,trivial⟩,fun i hi=>⟨fun h1=>?_,fun h1=>?_⟩⟩
 ·show ((0:Nat):Int)≤(countR x 8).1
  omega
 ·simp only [decide_eq_true_eq] at h1
  obtain ⟨b1,b2⟩:=brsR_ok c1 i
  obtain ⟨d1,d2,d3⟩:=countR_ok b1 (m:=16) (by omega)
  refine ⟨⟨trivial,rfl⟩,⟨⟨rfl,rfl,rfl,trivial⟩,trivial⟩,few b1 (by omega) (by omega),⟨0,?_,rfl,⟨⟨rfl,rfl,rfl,trivial⟩,⟨rfl,trivial⟩,⟨trivial,trivial⟩,rfl,⟨rfl,rfl,rfl,rfl,trivial⟩,trivial⟩,rfl,trivial⟩,fun j hj=>⟨fun h2=>both ?_,fun h2=>?_⟩⟩
  ·show ((0:Nat):Int)≤(countR (dBrs i (countR x 8).2).2 16).1
   omega
  ·simp only [decide_eq_true_eq] at h2
   obtain ⟨k1,k2⟩:=keysR_ok d1 j
   obtain ⟨u1,u2⟩:=uintR_ok k1 (m:=16) (by omega)
   refine ⟨⟨trivial,rfl⟩,⟨⟨rfl,rfl,rfl,trivial⟩,trivial⟩,⟨k1,by show (0:Int)≤16; omega⟩,?_,?_,by unfold inI64; omega,j+1,?_,by omega,by omega,⟨⟨rfl,rfl,rfl,trivial⟩,⟨rfl,trivial⟩,⟨trivial,trivial⟩,rfl,⟨trivial,rfl,rfl,rfl,trivial⟩,trivial⟩,?_,trivial⟩
   ·rw [k2]; simp only [List.length_singleton]; omega
   ·rw [k2]; simp only [List.length_singleton]; omega
   ·show ((j+1:Nat):Int)≤(countR (dBrs i (countR x 8).2).2 16).1
    omega
   ·rw [wr_small u2 (by omega)]
    rfl
  ·simp only [decide_eq_false_iff_not] at h2
   have hj':(j:Int)≤(countR (dBrs i (countR x 8).2).2 16).1:=hj
   have ej:dKeys j (countR (dBrs i (countR x 8).2).2 16).2=dK (dBrs i (countR x 8).2).2:=by
    unfold dK
    rw [show (countR (dBrs i (countR x 8).2).2 16).1.toNat=j by omega]
   rw [ej]
   refine ⟨trivial,⟨⟨rfl,rfl,rfl,trivial⟩,trivial⟩,(kR_ok b1).1,⟨trivial,rfl⟩,⟨⟨rfl,rfl,rfl,trivial⟩,trivial⟩,⟨(hR_ok b1).1,by show (0:Int)≤1099511627776; omega⟩,⟨trivial,rfl⟩,⟨⟨rfl,rfl,rfl,trivial⟩,trivial⟩,⟨(aR_ok b1).1,by show (0:Int)≤65536; omega⟩,⟨rfl,rfl,rfl,rfl,trivial⟩,?_,?_,by unfold inI64; omega,i+1,?_,by omega,by omega,⟨⟨rfl,rfl,rfl,trivial⟩,⟨rfl,trivial⟩,⟨trivial,trivial⟩,trivial⟩,?_,trivial⟩
   ·rw [b2]; simp only [List.length_singleton]; omega
   ·rw [b2]; simp only [List.length_singleton]; omega
   ·show ((i+1:Nat):Int)≤(countR x 8).1
    omega
   ·have e1:wr .i64 (dA (dBrs i (countR x 8).2).2).1=(dA (dBrs i (countR x 8).2).2).1:=wr_small (aR_ok b1).2 (by omega)
    have e2:wr .i64 (dO (dBrs i (countR x 8).2).2).1=(dO (dBrs i (countR x 8).2).2).1:=wr_small (oR_ok b1).2 (by omega)
    show _=(dBrs i (countR x 8).2).1++[Br.mk _ _ (wr .i64 (dA (dBrs i (countR x 8).2).2).1) (wr .i64 (dO (dBrs i (countR x 8).2).2).1)]
    rw [e1,e2]
    rfl
 ·simp only [decide_eq_false_iff_not] at h1
  have hi':(i:Int)≤(countR x 8).1:=hi
  have ei:dBrs i (countR x 8).2=dC x:=by
   unfold dC
   rw [show (countR x 8).1.toNat=i by omega]
  rw [ei]
  exact ⟨⟨rfl,trivial⟩,⟨⟨rfl,rfl,rfl,trivial⟩,trivial⟩,trivial⟩
theorem takes_ok:Fits F160 f68 (bodyOf f68) takesLS takesAnn:=by
 constructor
 rw [← takes_eq]
 exact takes_vc
theorem takes_has:Has prog 68 f68 (bodyOf f68):=⟨by kernel_rfl,by kernel_rfl,by kernel_rfl⟩
theorem known161:Known prog L161:=by
 unfold L161
 exact known160.lent mixed takes_has F160_eq takes_ok (fun _ _=>Nat.le_refl _) (fun h=>by cases h)
end Go.Proofs.YtcglahfmnoghjaaGreatDoor

/-! The document's reader: what is said of it. Conditions: none. -/
namespace Go.Proofs.YtcglahfmnoghjaaGreatDoor
open Go Go.Eng Go.Proofs.Tryz
/-- The document's reader: what is left, the first error. -/
structure RR where
 l:List Int
 e:Int
def rrSL (r:RR):SL AA := .cell (.rints .u8 r.l) (.cell (.int .i64 r.e) .nil)
def decRR (sh:List (SO AA)):SV AA→Option RR
 | .agg (.cell b (.cell n .nil))=>match gI .u8 sh b,asI n with
  | some b,some n=>some ⟨b,n⟩
  | _,_=>none
 | _=>none
def ofR (r:RR):Rd:=⟨r.l,0,r.e⟩
def toR (r:Rd):RR:=⟨r.left,r.e⟩
structure RR.Ok (r:RR):Prop where
 byt:∀ y,y∈r.l→0≤y∧y<256
 len:r.l.length≤1000000000000
theorem RR.Ok.of {r:RR} (h:r.Ok):(ofR r).Ok:=⟨h.byt,by show (0:Int)≤0; omega,by show (0:Int)≤r.l.length; omega,h.len⟩
theorem Rd.Ok.to {r:Rd} (h:r.Ok):(toR r).Ok:=⟨left_byt h,by
 show r.left.length≤1000000000000
 have:=left_len r h
 have:=h.len
 have:=h.lo
 omega⟩
theorem to_of (r:RR):toR (ofR r)=r:=rfl
theorem left_step {r:Rd} (h:r.Ok) {k:Int} (hk:0≤k) (e:Int):(Rd.mk r.b (r.i+k) e).left=r.left.drop k.toNat:=by
 unfold Rd.left
 have:=h.lo
 show List.drop (r.i+k).toNat r.b=_
 rw [List.drop_drop,show (r.i+k).toNat=r.i.toNat+k.toNat by omega]
theorem uint_to {r:Rd} (h:r.Ok) {m:Int} (_hm:0≤m):(uintR (ofR (toR r)) m).1=(uintR r m).1∧toR (uintR (ofR (toR r)) m).2=toR (uintR r m).2:=by
 unfold uintR
 show (if r.e≠0 then (0,ofR (toR r)) else if numE r.left m≠0 then (0,⟨r.left,0,numE r.left m⟩) else (numV r.left,⟨r.left,0+numW r.left,0⟩)).1=_∧toR (if r.e≠0 then (0,ofR (toR r)) else if numE r.left m≠0 then (0,⟨r.left,0,numE r.left m⟩) else (numV r.left,⟨r.left,0+numW r.left,0⟩)).2=_
 split
 ·exact ⟨rfl,rfl⟩
 split
 ·exact ⟨rfl,rfl⟩
 ·rename_i h1 h2
  have nf:=num_facts h (Classical.not_not.1 h2)
  refine ⟨rfl,?_⟩
  show RR.mk _ 0=RR.mk _ 0
  rw [left_step h (by omega)]
  have h3:(Rd.mk r.left 0 0).Ok:=RR.Ok.of (r:=⟨r.left,0⟩) ⟨(Rd.Ok.to h).byt,(Rd.Ok.to h).len⟩
  have:=left_step h3 (k:=numW r.left) (by omega) 0
  rw [this]
  rfl
theorem count_to {r:Rd} (h:r.Ok) {m:Int} (_hm:0≤m):(countR (ofR (toR r)) m).1=(countR r m).1∧toR (countR (ofR (toR r)) m).2=toR (countR r m).2:=by
 unfold countR
 show (if r.e≠0 then (0,ofR (toR r)) else if numE r.left m≠0 then (0,⟨r.left,0,numE r.left m⟩) else if numV r.left>r.left.length-numW r.left then (0,⟨r.left,0,2⟩) else (numV r.left,⟨r.left,0+numW r.left,0⟩)).1=_∧toR (if r.e≠0 then (0,ofR (toR r)) else if numE r.left m≠0 then (0,⟨r.left,0,numE r.left m⟩) else if numV r.left>r.left.length-numW r.left then (0,⟨r.left,0,2⟩) else (numV r.left,⟨r.left,0+numW r.left,0⟩)).2=_
 split
 ·exact ⟨rfl,rfl⟩
 split
 ·exact ⟨rfl,rfl⟩
 split
 ·exact ⟨rfl,rfl⟩
 ·rename_i h1 h2 h4
  have nf:=num_facts h (Classical.not_not.1 h2)
  refine ⟨rfl,?_⟩
  show RR.mk _ 0=RR.mk _ 0
  rw [left_step h (by omega)]
  have h3:(Rd.mk r.left 0 0).Ok:=RR.Ok.of (r:=⟨r.left,0⟩) ⟨(Rd.Ok.to h).byt,(Rd.Ok.to h).len⟩
  have:=left_step h3 (k:=numW r.left) (by omega) 0
  rw [this]
  rfl
theorem hash_to {r:Rd} (h:r.Ok):(hashR (ofR (toR r))).1=(hashR r).1∧toR (hashR (ofR (toR r))).2=toR (hashR r).2:=by
 unfold hashR
 show (if r.e≠0 then (List.replicate 32 0,ofR (toR r)) else if r.left.length<32 then (List.replicate 32 0,⟨r.left,0,12⟩) else (r.left.take 32,⟨r.left,0+32,0⟩)).1=_∧toR (if r.e≠0 then (List.replicate 32 0,ofR (toR r)) else if r.left.length<32 then (List.replicate 32 0,⟨r.left,0,12⟩) else (r.left.take 32,⟨r.left,0+32,0⟩)).2=_
 split
 ·exact ⟨rfl,rfl⟩
 split
 ·exact ⟨rfl,rfl⟩
 ·refine ⟨rfl,?_⟩
  show RR.mk _ 0=RR.mk _ 0
  rw [left_step h (by omega)]
  have h3:(Rd.mk r.left 0 0).Ok:=RR.Ok.of (r:=⟨r.left,0⟩) ⟨(Rd.Ok.to h).byt,(Rd.Ok.to h).len⟩
  have:=left_step h3 (k:=32) (by omega) 0
  rw [this]
  rfl
theorem bytes_to {r:Rd} (h:r.Ok) {m:Int}:(bytesR (ofR (toR r)) m).1=(bytesR r m).1∧toR (bytesR (ofR (toR r)) m).2=toR (bytesR r m).2:=by
 unfold bytesR
 show (if r.e≠0 then ([],ofR (toR r)) else if (scanB m r.left [] 0).2.1≠0 then ([],⟨r.left,0,(scanB m r.left [] 0).2.1⟩) else ((scanB m r.left [] 0).1,⟨r.left,0+((scanB m r.left [] 0).2.2:Int),0⟩)).1=_∧toR (if r.e≠0 then ([],ofR (toR r)) else if (scanB m r.left [] 0).2.1≠0 then ([],⟨r.left,0,(scanB m r.left [] 0).2.1⟩) else ((scanB m r.left [] 0).1,⟨r.left,0+((scanB m r.left [] 0).2.2:Int),0⟩)).2=_
 split
 ·exact ⟨rfl,rfl⟩
 split
 ·exact ⟨rfl,rfl⟩
 ·refine ⟨rfl,?_⟩
  show RR.mk _ 0=RR.mk _ 0
  rw [left_step h (by omega)]
  have h3:(Rd.mk r.left 0 0).Ok:=RR.Ok.of (r:=⟨r.left,0⟩) ⟨(Rd.Ok.to h).byt,(Rd.Ok.to h).len⟩
  have:=left_step h3 (k:=((scanB m r.left [] 0).2.2:Int)) (by omega) 0
  rw [this]
  rfl
structure RRn where
 r:RR
 n:Int
def rrnGet (args:List (SV AA)) (sh:List (SO AA)):Option RRn:=match args with
 | [r,n]=>match decRR sh r,asI n with
  | some r,some n=>some ⟨r,n⟩
  | _,_=>none
 | _=>none
def RR.fail (r:RR) (n:Int):RR:=⟨r.l,if r.e=0 then n else r.e⟩
def rfailLS:LS AA where
 X:=RRn
 pre:=fun _=>True
 args:=fun x=>[.agg (rrSL x.r),.int .i64 x.n]
 hin:=fun _=>[]
 res:=fun x=>[.agg (rrSL (x.r.fail x.n))]
 hout:=fun _=>[]
def L180:List (Nat×SpecT AA):=(113,tLent rfailLS rrnGet)::L161
noncomputable def F161:Eng AA:=EF prog L161
theorem F161_eq:F161=EF prog L161:=by
 unfold F161
 rfl
noncomputable def F180:Eng AA:=EF prog L180
theorem F180_eq:F180=EF prog L180:=by
 unfold F180
 rfl
structure RNum where
 l:List Int
 n:Int
structure RNum.Ok (x:RNum):Prop where
 byt:∀ y,y∈x.l→0≤y∧y<256
 one:1≤x.l.length
 lo:0≤x.n
 hi:x.n≤8
def rnumLS:LS AA where
 X:=RNum
 pre:=RNum.Ok
 args:=fun x=>[.rints .u8 x.l,.int .i64 x.n,.bl false]
 hin:=fun _=>[]
 res:=fun x=>[.int .u64 (lowN2 x.l.tail x.n),.int .i64 (lowE x.l.tail x.n)]
 hout:=fun _=>[]
def rnumGet (args:List (SV AA)) (sh:List (SO AA)):Option RNum:=match args with
 | [l,n,.bl false]=>match gI .u8 sh l,asI n with
  | some l,some n=>some ⟨l,n⟩
  | _,_=>none
 | _=>none
def rnumAnn (x:RNum):Anns AA:=fun _ _ _=>some {
 X:=Nat
 inv:=fun k=>(k:Int)≤x.n∧(0<k→x.l.tail.head?≠some 0)
 meas:=fun k=>x.n.toNat-k
 slots:=fun k=>[(9,.int .i64 ((k:Int)+1)),(8,.int .u64 (bigE (x.l.tail.take k)))]
 heap:=fun _=>[] }
def L181:List (Nat×SpecT AA):=(114,tLent rnumLS rnumGet)::L180
noncomputable def F181:Eng AA:=EF prog L181
theorem F181_eq:F181=EF prog L181:=by
 unfold F181
 rfl
structure RRn.Ok (x:RRn):Prop where
 r:x.r.Ok
 lo:0≤x.n
structure RRn.Few (x:RRn):Prop extends RRn.Ok x where
 hi:x.n≤1000000
def rruGet (args:List (SV AA)) (sh:List (SO AA)):Option RRn:=match args with
 | [r,n]=>match decRR sh r,asU n with
  | some r,some n=>some ⟨r,n⟩
  | _,_=>none
 | _=>none
def rrUintLS:LS AA where
 X:=RRn
 pre:=RRn.Ok
 args:=fun x=>[.agg (rrSL x.r),.int .u64 x.n]
 hin:=fun _=>[]
 res:=fun x=>[.agg (rrSL (toR (uintR (ofR x.r) x.n).2)),.int .u64 (uintR (ofR x.r) x.n).1]
 hout:=fun _=>[]
def L182:List (Nat×SpecT AA):=(69,tLent rrUintLS rruGet)::L181
noncomputable def F182:Eng AA:=EF prog L182
theorem F182_eq:F182=EF prog L182:=by
 unfold F182
 rfl
def rrCountLS:LS AA where
 X:=RRn
 pre:=RRn.Few
 args:=fun x=>[.agg (rrSL x.r),.int .i64 x.n]
 hin:=fun _=>[]
 res:=fun x=>[.agg (rrSL (toR (countR (ofR x.r) x.n).2)),.int .i64 (countR (ofR x.r) x.n).1]
 hout:=fun _=>[]
def L183:List (Nat×SpecT AA):=(70,tLent rrCountLS rrnGet)::L182
noncomputable def F183:Eng AA:=EF prog L183
theorem F183_eq:F183=EF prog L183:=by
 unfold F183
 rfl
def rrGet (args:List (SV AA)) (sh:List (SO AA)):Option RR:=match args with
 | [r]=>decRR sh r
 | _=>none
def rrHashLS:LS AA where
 X:=RR
 pre:=RR.Ok
 args:=fun r=>[.agg (rrSL r)]
 hin:=fun _=>[]
 res:=fun r=>[.agg (rrSL (toR (hashR (ofR r)).2)),hashV (hashR (ofR r)).1]
 hout:=fun _=>[]
def rrHashAnn (r:RR):Anns AA:=fun _ ts sh=>match nth ts 4 with
 | some (.ptr j _)=>(match nth sh j with
  | some (.cells t _)=>some {
   X:=Nat
   inv:=fun k=>k≤32
   meas:=fun k=>32-k
   slots:=fun k=>[(5,.int .i64 k)]
   heap:=fun k=>[(j,.cells t (.run .u8 32 (r.l.take k++List.replicate (32-k) 0) .nil))] }
  | _=>none)
 | _=>none
def L184:List (Nat×SpecT AA):=(71,tLent rrHashLS rrGet)::L183
noncomputable def F184:Eng AA:=EF prog L184
theorem F184_eq:F184=EF prog L184:=by
 unfold F184
 rfl
def rrBytesLS:LS AA where
 X:=RRn
 pre:=RRn.Few
 args:=fun x=>[.agg (rrSL x.r),.int .i64 x.n]
 hin:=fun _=>[]
 res:=fun x=>[.agg (rrSL (toR (bytesR (ofR x.r) x.n).2)),.rints .u8 (bytesR (ofR x.r) x.n).1]
 hout:=fun _=>[]
def rrBytesAnn (x:RRn):Anns AA:=fun _ _ sh=>some {
 X:=ScanX
 inv:=fun y=>y.i≤x.r.l.length∧(y.out.length:Int)≤x.n∧scanB x.n x.r.l [] 0=scanB x.n (x.r.l.drop y.i) y.out y.i
 meas:=fun y=>x.r.l.length-y.i
 slots:=fun y=>[(7,.int .i64 y.i),(6,.vec (cnt sh))]
 heap:=fun _=>[]
 more:=fun y=>[.ivec 5 .u8 y.out] }
def L185:List (Nat×SpecT AA):=(72,tLent rrBytesLS rrnGet)::L184
noncomputable def F185:Eng AA:=EF prog L185
theorem F185_eq:F185=EF prog L185:=by
 unfold F185
 rfl
def doneL (r:RR):Int:=if r.e=0∧r.l≠[] then 3 else r.e
def rrDoneLS:LS AA where
 X:=RR
 pre:=fun _=>True
 args:=fun r=>[.agg (rrSL r)]
 hin:=fun _=>[]
 res:=fun r=>[.int .i64 (doneL r)]
 hout:=fun _=>[]
def L186:List (Nat×SpecT AA):=(55,tLent rrDoneLS rrGet)::L185
noncomputable def F186:Eng AA:=EF prog L186
theorem F186_eq:F186=EF prog L186:=by
 unfold F186
 rfl
end Go.Proofs.YtcglahfmnoghjaaGreatDoor

/-! The document's reader: the walks. Conditions: none. -/
namespace Go.Proofs.YtcglahfmnoghjaaGreatDoor
open Go Go.Eng Go.Proofs.Tryz
def rfailVC:Prop:=∀ (x:RRn),True→((x.r.e==(0:Int))=true→(x.r.l=x.r.l∧(if x.r.e=(0:Int) then x.n else x.r.e)=x.n∧True)∧True∧True)∧((x.r.e
 == (0:Int))=false→(x.r.l=x.r.l∧(if x.r.e=(0:Int) then x.n else x.r.e)=x.r.e∧True)∧True∧True)
theorem rfail_eq:rfailVC=fnS F161 f113 (bodyOf f113) rfailLS noAnn:=by kernel_rfl
theorem rfail_vc:rfailVC:=by
 rintro ⟨⟨l,e⟩,n⟩ _
 refine ⟨fun h=>⟨⟨rfl,?_,trivial⟩,trivial,trivial⟩,fun h=>⟨⟨rfl,?_,trivial⟩,trivial,trivial⟩⟩
 ·rw [if_pos (by simpa using h)]
 ·rw [if_neg (by simpa using h)]
theorem rfail_ok:Fits F161 f113 (bodyOf f113) rfailLS noAnn:=by
 constructor
 rw [← rfail_eq]
 exact rfail_vc
theorem rfail_has:Has prog 113 f113 (bodyOf f113):=⟨by kernel_rfl,by kernel_rfl,by kernel_rfl⟩
theorem known180:Known prog L180:=by
 unfold L180
 exact known161.lent mixed rfail_has F161_eq rfail_ok (fun _ _=>Nat.zero_le _) (fun _ _=>rfl)
theorem mul_byte {a c:Int} (h1:0≤a) (h2:a<72057594037927936) (h3:0≤c) (h4:c<256):wr .u64 (wr .u64 (256*a)+wr .u64 c)=a*256+c:=by
 rw [wr64u,wr64u,wr64u]
 omega
def rnumVC:Prop:=∀ (x:RNum),x.Ok→(x.l.length:Int)≤(9223372036854775807:Int)→inI64 ((1:Int)+x.n)∧(decide ((x.l.length:Int)<(1:Int)+x.n) =
 true→(lowN2 x.l.tail x.n=(0:Int)∧lowE x.l.tail x.n=(12:Int))∧True∧True)∧(decide ((x.l.length:Int)<(1:Int)+x.n)=false→(∃ (x_1:Nat),((x_1:Int)≤x.n∧((0:Nat)<x_1→x.l.tail.head?≠some (0:Int)))∧((x_1:Int)+(1:Int)=(1:Int)∧bigE (List.take x_1 x.l.tail)
 = (0:Int))∧True∧True)∧∀ (x_1:Nat),(x_1:Int)≤x.n∧((0:Nat)<x_1→x.l.tail.head?≠some (0:Int))→(decide ((x_1:Int)+(1 :
 Int)≤x.n)=true→(0:Int)≤(x_1:Int)+(1:Int)∧(x_1:Int)+(1:Int)<(x.l.length:Int)∧((x_1:Int)+(1:Int)).toNat <
 x.l.length∧(((x_1:Int)+(1:Int)==(1:Int))=true→((x.l.getD ((x_1:Int)+(1:Int)).toNat (0:Int)==(0:Int))=true→(lowN2
 x.l.tail x.n=(0:Int)∧lowE x.l.tail x.n=(3:Int))∧True∧True)∧((x.l.getD ((x_1:Int)+(1:Int)).toNat (0:Int)==(0:Int))=false
 → inI64 ((x_1:Int)+(1:Int)+(1:Int))∧∃ (y:Nat),((y:Int)≤x.n∧((0:Nat)<y→x.l.tail.head?≠some (0:Int)))∧x.n.toNat-y <
 x.n.toNat-x_1∧((y:Int)+(1:Int)=(x_1:Int)+(1:Int)+(1:Int)∧bigE (List.take y x.l.tail)=wr IntKind.u64 (wr IntKind.u64 ((256 :
 Int)*bigE (List.take x_1 x.l.tail))+wr IntKind.u64 (x.l.getD ((x_1:Int)+(1:Int)).toNat (0:Int))))∧True∧True))∧(((x_1:Int)+(1 :
 Int)==(1:Int))=false→inI64 ((x_1:Int)+(1:Int)+(1:Int))∧∃ (y:Nat),((y:Int)≤x.n∧((0:Nat)<y→x.l.tail.head?≠some (0:Int)))
 ∧ x.n.toNat-y<x.n.toNat-x_1∧((y:Int)+(1:Int)=(x_1:Int)+(1:Int)+(1:Int)∧bigE (List.take y x.l.tail)=wr IntKind.u64 (wr
 IntKind.u64 ((256:Int)*bigE (List.take x_1 x.l.tail))+wr IntKind.u64 (x.l.getD ((x_1:Int)+(1:Int)).toNat (0:Int))))∧True∧True)) ∧
 (decide ((x_1:Int)+(1:Int)≤x.n)=false→(lowN2 x.l.tail x.n=bigE (List.take x_1 x.l.tail)∧lowE x.l.tail x.n=(0:Int))∧True∧True))
theorem rnum_eq:rnumVC=fnS F180 f114 (bodyOf f114) rnumLS rnumAnn:=by kernel_rfl
theorem rnum_vc:rnumVC:=by
 rintro ⟨l,n⟩ ⟨hb,h1,lo,hi⟩ hl
 simp only at hb h1 lo hi hl
 cases l with
 | nil=>simp at h1
 | cons c s=>
  have hs:∀ y,y∈s→0≤y∧y<256:=fun y hy=>hb y (List.mem_cons_of_mem _ hy)
  simp only [List.length_cons] at hl
  have g:s.getD 0 0=0↔(s=[]∨s.head?=some 0):=by cases s<;>simp
  have up:∀ k:Nat,(k:Int)+1≤n→n≤s.length→bigE (s.take (k+1))=wr .u64 (wr .u64 (256*bigE (s.take k))+wr .u64 ((c::s).getD ((k:Int)+1).toNat 0)):=fun k hk hn=>by
   have e:((k:Int)+1).toNat=k+1:=by omega
   have h2:=bigE_lt hs k (by omega)
   have h3:=byte_getD hs k
   have h4:(256 ^ k:Nat)≤256 ^ 7:=Nat.pow_le_pow_right (by omega) (by omega)
   rw [e,List.getD_cons_succ,mul_byte h2.1 (by omega) h3.1 h3.2,bigE_up (by omega)]
  have hi1:inI64 (1+n):=by unfold inI64; omega
  refine ⟨hi1,fun h=>?_,fun h=>?_⟩
  ·have h':((c::s).length:Int)<1+n:=of_decide_eq_true h
   simp only [List.length_cons] at h'
   have h2:lowE s n=12:=by unfold lowE; rw [if_pos (by omega)]
   exact ⟨⟨by show lowN2 s n=0; unfold lowN2; rw [h2]; rfl,h2⟩,trivial,trivial⟩
  have h':¬((c::s).length:Int)<1+n:=of_decide_eq_false h
  simp only [List.length_cons] at h'
  refine ⟨⟨0,⟨lo,fun h=>by omega⟩,⟨rfl,rfl⟩,trivial,trivial⟩,fun k hk=>⟨fun h2=>?_,fun h2=>?_⟩⟩
  ·have h2':(k:Int)+1≤n:=of_decide_eq_true h2
   have e:((k:Int)+1).toNat=k+1:=by omega
   have hi2:inI64 ((k:Int)+1+1):=by unfold inI64; omega
   have fin:(0<k+1→s.head?≠some 0)→∃ (y:Nat),((y:Int)≤n∧(0<y→s.head?≠some 0))∧n.toNat-y<n.toNat-k∧((y:Int)+1=(k:Int)+1+1∧bigE (s.take y)=wr .u64 (wr .u64 (256*bigE (s.take k))+wr .u64 ((c::s).getD ((k:Int)+1).toNat 0)))∧True∧True:=fun hh=>
    ⟨k+1,⟨by omega,hh⟩,by omega,⟨by omega,up k h2' (by omega)⟩,trivial,trivial⟩
   refine ⟨by omega,by simp only [List.length_cons]; omega,by rw [e]; simp only [List.length_cons]; omega,fun h3=>⟨fun h4=>?_,fun h4=>⟨hi2,fin fun _=>?_⟩⟩,fun h3=>⟨hi2,fin fun _=>hk.2 ?_⟩⟩
   ·have k0:k=0:=by
     have:(k:Int)+1=1:=by simpa using h3
     omega
    subst k0
    have h4':s.getD 0 0=0:=by simpa using h4
    have h5:s.head?=some 0:=by
     rcases g.1 h4' with e2 | e2
     ·rw [e2] at h'
      simp only [List.length_nil] at h'
      omega
     ·exact e2
    have h6:lowE s n=3:=by unfold lowE; rw [if_neg (by omega),if_pos ⟨by omega,h5⟩]
    exact ⟨⟨by show lowN2 s n=0; unfold lowN2; rw [h6]; rfl,h6⟩,trivial,trivial⟩
   ·have k0:k=0:=by
     have:(k:Int)+1=1:=by simpa using h3
     omega
    subst k0
    have h4':¬s.getD 0 0=0:=by simpa using h4
    exact fun h5=>h4' (g.2 (.inr h5))
   ·have:¬(k:Int)+1=1:=by simpa using h3
    omega
  ·have h2':¬(k:Int)+1≤n:=of_decide_eq_false h2
   have hk1:(k:Int)≤n:=hk.1
   have h6:lowE s n=0:=by
    unfold lowE
    rw [if_neg (by omega),if_neg]
    rintro ⟨h7,h8⟩
    exact hk.2 (by omega) h8
   refine ⟨⟨?_,h6⟩,trivial,trivial⟩
   show lowN2 s n=bigE (s.take k)
   unfold lowN2
   rw [if_pos h6,show n.toNat=k by omega]
theorem rnum_ok:Fits F180 f114 (bodyOf f114) rnumLS rnumAnn:=by
 constructor
 rw [← rnum_eq]
 exact rnum_vc
theorem rnum_has:Has prog 114 f114 (bodyOf f114):=⟨by kernel_rfl,by kernel_rfl,by kernel_rfl⟩
theorem known181:Known prog L181:=by
 unfold L181
 exact known180.lent mixed rnum_has F180_eq rnum_ok (fun _ _=>Nat.zero_le _) (fun _ _=>rfl)
def rrUintVC:Prop:=∀ (x:RRn),x.Ok→((x.r.e != (0:Int))=true→(((uintR (ofR x.r) x.n).snd.left=x.r.l∧(uintR (ofR x.r) x.n).snd.e=x.r.e∧True)∧(uintR (ofR
 x.r) x.n).fst=(0:Int))∧True∧True)∧((x.r.e != (0:Int))=false→(x.r.l.length:Int)≤(9223372036854775807:Int)→(((↑x.r.l.length :
 Int)==(0:Int))=true→((x.r.l=x.r.l∧x.r.e=x.r.e∧True)∧(12:Int)=(12:Int))∧True∧True∧(((uintR (ofR x.r) x.n).snd.left=x.r.l
 ∧ ((uintR (ofR x.r) x.n).snd.e=if x.r.e=(0:Int) then (12:Int) else x.r.e)∧True)∧(uintR (ofR x.r) x.n).fst=(0:Int))∧True∧True) ∧
 (((x.r.l.length:Int)==(0:Int))=false→(0:Int)≤(0:Int)∧(0:Int)<(x.r.l.length:Int)∧Int.toNat (0:Int)<x.r.l.length ∧
 (decide (x.r.l.getD (Int.toNat (0:Int)) (0:Int)>(8:Int))=true→((x.r.l=x.r.l∧x.r.e=x.r.e∧True)∧(3:Int)=(3:Int))∧True ∧
 True∧(((uintR (ofR x.r) x.n).snd.left=x.r.l∧((uintR (ofR x.r) x.n).snd.e=if x.r.e=(0:Int) then (3:Int) else x.r.e)∧True)∧(uintR (ofR
 x.r) x.n).fst=(0:Int))∧True∧True)∧(decide (x.r.l.getD (Int.toNat (0:Int)) (0:Int)>(8:Int))=false→(0:Int)≤(0:Int)∧(0 :
 Int)<(x.r.l.length:Int)∧Int.toNat (0:Int)<x.r.l.length∧(x.r.l=x.r.l∧wr IntKind.i64 (x.r.l.getD (Int.toNat (0:Int)) (0:Int))=wr
 IntKind.i64 (x.r.l.getD (Int.toNat (0:Int)) (0:Int))∧false=false)∧True∧(RNum.mk x.r.l (wr IntKind.i64 (x.r.l.getD (Int.toNat (0:Int)) (0
 : Int)))).Ok∧((lowE x.r.l.tail (wr IntKind.i64 (x.r.l.getD (Int.toNat (0:Int)) (0:Int)))==(0:Int))=true→(decide (lowN2 x.r.l.tail (wr
 IntKind.i64 (x.r.l.getD (Int.toNat (0:Int)) (0:Int)))>x.n)=true→((x.r.l=x.r.l∧x.r.e=x.r.e∧True)∧(4:Int)=(4:Int))∧True ∧
 True∧(((uintR (ofR x.r) x.n).snd.left=x.r.l∧((uintR (ofR x.r) x.n).snd.e=if x.r.e=(0:Int) then (4:Int) else x.r.e)∧True)∧(uintR (ofR
 x.r) x.n).fst=(0:Int))∧True∧True)∧(decide (lowN2 x.r.l.tail (wr IntKind.i64 (x.r.l.getD (Int.toNat (0:Int)) (0:Int)))>x.n)=false →
 ((lowE x.r.l.tail (wr IntKind.i64 (x.r.l.getD (Int.toNat (0:Int)) (0:Int))) != (0:Int))=true→((x.r.l=x.r.l∧x.r.e=x.r.e∧True)∧lowE
 x.r.l.tail (wr IntKind.i64 (x.r.l.getD (Int.toNat (0:Int)) (0:Int)))=lowE x.r.l.tail (wr IntKind.i64 (x.r.l.getD (Int.toNat (0:Int)) (0 :
 Int))))∧True∧True∧(((uintR (ofR x.r) x.n).snd.left=x.r.l∧((uintR (ofR x.r) x.n).snd.e=if x.r.e=(0:Int) then lowE x.r.l.tail (wr
 IntKind.i64 (x.r.l.getD (Int.toNat (0:Int)) (0:Int))) else x.r.e)∧True)∧(uintR (ofR x.r) x.n).fst=(0:Int))∧True∧True)∧((lowE
 x.r.l.tail (wr IntKind.i64 (x.r.l.getD (Int.toNat (0:Int)) (0:Int))) != (0:Int))=false→(0:Int)≤(0:Int)∧(0:Int)<(↑x.r.l.length :
 Int)∧Int.toNat (0:Int)<x.r.l.length∧inI64 ((1:Int)+wr IntKind.i64 (x.r.l.getD (Int.toNat (0:Int)) (0:Int)))∧(0:Int)≤(1:Int) +
 wr IntKind.i64 (x.r.l.getD (Int.toNat (0:Int)) (0:Int))∧(1:Int)+wr IntKind.i64 (x.r.l.getD (Int.toNat (0:Int)) (0:Int))≤(↑x.r.l.length
 : Int)∧(x.r.l.length:Int)≤(x.r.l.length:Int)∧(((uintR (ofR x.r) x.n).snd.left=List.drop ((1:Int)+wr IntKind.i64 (x.r.l.getD
 (Int.toNat (0:Int)) (0:Int))).toNat (List.take (x.r.l.length:Int).toNat x.r.l)∧(uintR (ofR x.r) x.n).snd.e=x.r.e∧True)∧(uintR (ofR x.r)
 x.n).fst=lowN2 x.r.l.tail (wr IntKind.i64 (x.r.l.getD (Int.toNat (0:Int)) (0:Int))))∧True∧True)))∧((lowE x.r.l.tail (wr IntKind.i64
 (x.r.l.getD (Int.toNat (0:Int)) (0:Int)))==(0:Int))=false→((lowE x.r.l.tail (wr IntKind.i64 (x.r.l.getD (Int.toNat (0:Int)) (0:Int)))
 != (0:Int))=true→((x.r.l=x.r.l∧x.r.e=x.r.e∧True)∧lowE x.r.l.tail (wr IntKind.i64 (x.r.l.getD (Int.toNat (0:Int)) (0:Int)))=lowE
 x.r.l.tail (wr IntKind.i64 (x.r.l.getD (Int.toNat (0:Int)) (0:Int))))∧True∧True∧(((uintR (ofR x.r) x.n).snd.left=x.r.l∧((uintR (ofR x.r)
 x.n).snd.e=if x.r.e=(0:Int) then lowE x.r.l.tail (wr IntKind.i64 (x.r.l.getD (Int.toNat (0:Int)) (0:Int))) else x.r.e)∧True)∧(uintR (ofR
 x.r) x.n).fst=(0:Int))∧True∧True)∧((lowE x.r.l.tail (wr IntKind.i64 (x.r.l.getD (Int.toNat (0:Int)) (0:Int))) != (0:Int))=false→(0
 : Int)≤(0:Int)∧(0:Int)<(x.r.l.length:Int)∧Int.toNat (0:Int)<x.r.l.length∧inI64 ((1:Int)+wr IntKind.i64 (x.r.l.getD (Int.toNat
 (0:Int)) (0:Int)))∧(0:Int)≤(1:Int)+wr IntKind.i64 (x.r.l.getD (Int.toNat (0:Int)) (0:Int))∧(1:Int)+wr IntKind.i64 (x.r.l.getD
 (Int.toNat (0:Int)) (0:Int))≤(x.r.l.length:Int)∧(x.r.l.length:Int)≤(x.r.l.length:Int)∧(((uintR (ofR x.r) x.n).snd.left=List.drop
 ((1:Int)+wr IntKind.i64 (x.r.l.getD (Int.toNat (0:Int)) (0:Int))).toNat (List.take (x.r.l.length:Int).toNat x.r.l)∧(uintR (ofR x.r)
 x.n).snd.e=x.r.e∧True)∧(uintR (ofR x.r) x.n).fst=lowN2 x.r.l.tail (wr IntKind.i64 (x.r.l.getD (Int.toNat (0:Int)) (0:Int))))∧True ∧
 True)))))
theorem rrUint_eq:rrUintVC=fnS F181 f69 (bodyOf f69) rrUintLS noAnn:=by kernel_rfl
theorem rrUint_vc:rrUintVC:=by
 rintro ⟨⟨l,e⟩,m⟩ hx
 have hb:∀ y,y∈l→0≤y∧y<256:=hx.r.byt
 have hlen:l.length≤1000000000000:=hx.r.len
 by_cases he:e=0
 case neg=>simp [uintR,ofR,he,Rd.left]
 subst he
 cases l with
 | nil=>simp [uintR,ofR,Rd.left,numE]
 | cons c s=>
  have hc:0≤c∧c<256:=hb c List.mem_cons_self
  have hw:wr .i64 c=c:=by rw [wr64 (by unfold inI64; omega)]
  have hi:inI64 (1+c):=by unfold inI64; omega
  have hL:(ofR ⟨c::s,0⟩).left=c::s:=rfl
  have hE0:(ofR ⟨c::s,0⟩).e=0:=rfl
  by_cases h8:c>8
  ·have hE:numE (c::s) m=3:=by simp [numE,h8]
   simp [uintR,hL,hE0,hE,h8]
   simp [ofR,Rd.left]
   omega
  ·have hnum:(RNum.mk (c::s) c).Ok:=⟨hb,by simp,hc.1,by show c≤8; omega⟩
   by_cases hE:lowE s c=0
   ·have hN:lowN2 s c=bigE (s.take c.toNat):=by unfold lowN2; rw [if_pos hE]
    by_cases hB:bigE (s.take c.toNat)>m
    ·have hE2:numE (c::s) m=4:=by simp only [numE]; rw [if_neg h8,if_neg (fun h=>h hE),if_pos hB]
     simp [uintR,hL,hE0,hE,hE2,h8,hw,hnum,hN,hB]
     simp [ofR,Rd.left]
     omega
    ·have hE2:numE (c::s) m=0:=by simp only [numE]; rw [if_neg h8,if_neg (fun h=>h hE),if_neg hB]
     have hs:¬((s.length:Int)<c):=fun h=>by
      unfold lowE at hE
      rw [if_pos h] at hE
      omega
     have e2:(1+c).toNat=c.toNat+1:=by omega
     simp [uintR,hL,hE0,hE,hE2,h8,hw,hnum,hN,hB,hi,numV,numW,e2]
     simp [ofR,Rd.left,e2]
     omega
   ·have hE2:numE (c::s) m=lowE s c:=by simp only [numE]; rw [if_neg h8,if_pos hE]
    simp [uintR,hL,hE0,hE,hE2,h8,hw,hnum]
    simp [ofR,Rd.left]
    omega
theorem rrUint_ok:Fits F181 f69 (bodyOf f69) rrUintLS noAnn:=by
 constructor
 rw [← rrUint_eq]
 exact rrUint_vc
theorem rrUint_has:Has prog 69 f69 (bodyOf f69):=⟨by kernel_rfl,by kernel_rfl,by kernel_rfl⟩
theorem known182:Known prog L182:=by
 unfold L182
 exact known181.lent mixed rrUint_has F181_eq rrUint_ok (fun _ _=>Nat.zero_le _) (fun _ _=>rfl)
def rrCountVC:Prop:=∀ (x:RRn),x.Few→(decide (x.n<(0:Int))=true→((x.r.l=x.r.l∧x.r.e=x.r.e∧True)∧wr IntKind.u64 (0:Int)=wr IntKind.u64 (0:Int))
 ∧ True∧(RRn.mk (RR.mk x.r.l x.r.e) (wr IntKind.u64 (0:Int))).Ok∧(((uintR (ofR (RR.mk x.r.l x.r.e)) (wr IntKind.u64 (0:Int))).snd.e != (0 :
 Int))=true→((x.r.l=x.r.l∧x.r.e=x.r.e∧True)∧(uintR (ofR (RR.mk x.r.l x.r.e)) (wr IntKind.u64 (0:Int))).snd.e=(uintR (ofR (RR.mk x.r.l
 x.r.e)) (wr IntKind.u64 (0:Int))).snd.e)∧True∧True∧(((countR (ofR x.r) x.n).snd.left=x.r.l∧((countR (ofR x.r) x.n).snd.e=if x.r.e=(0 :
 Int) then (uintR (ofR (RR.mk x.r.l x.r.e)) (wr IntKind.u64 (0:Int))).snd.e else x.r.e)∧True)∧(countR (ofR x.r) x.n).fst=(0:Int))∧True ∧
 True)∧(((uintR (ofR (RR.mk x.r.l x.r.e)) (wr IntKind.u64 (0:Int))).snd.e != (0:Int))=false→(↑(uintR (ofR (RR.mk x.r.l x.r.e)) (wr IntKind.u64
 (0:Int))).snd.left.length:Int)≤(9223372036854775807:Int)→(decide ((uintR (ofR (RR.mk x.r.l x.r.e)) (wr IntKind.u64 (0:Int))).fst>wr
 IntKind.u64 (↑(uintR (ofR (RR.mk x.r.l x.r.e)) (wr IntKind.u64 (0:Int))).snd.left.length:Int))=true→((x.r.l=x.r.l∧x.r.e=x.r.e∧True) ∧
 (2:Int)=(2:Int))∧True∧True∧(((countR (ofR x.r) x.n).snd.left=x.r.l∧((countR (ofR x.r) x.n).snd.e=if x.r.e=(0:Int) then (2:Int)
 else x.r.e)∧True)∧(countR (ofR x.r) x.n).fst=(0:Int))∧True∧True)∧(decide ((uintR (ofR (RR.mk x.r.l x.r.e)) (wr IntKind.u64 (0 :
 Int))).fst>wr IntKind.u64 (↑(uintR (ofR (RR.mk x.r.l x.r.e)) (wr IntKind.u64 (0:Int))).snd.left.length:Int))=false→(((countR (ofR x.r)
 x.n).snd.left=(uintR (ofR (RR.mk x.r.l x.r.e)) (wr IntKind.u64 (0:Int))).snd.left∧(countR (ofR x.r) x.n).snd.e=(uintR (ofR (RR.mk x.r.l x.r.e))
 (wr IntKind.u64 (0:Int))).snd.e∧True)∧(countR (ofR x.r) x.n).fst=wr IntKind.i64 (uintR (ofR (RR.mk x.r.l x.r.e)) (wr IntKind.u64 (0 :
 Int))).fst)∧True∧True)))∧(decide (x.n<(0:Int))=false→((x.r.l=x.r.l∧x.r.e=x.r.e∧True)∧wr IntKind.u64 x.n=wr IntKind.u64 x.n) ∧
 True∧(RRn.mk (RR.mk x.r.l x.r.e) (wr IntKind.u64 x.n)).Ok∧(((uintR (ofR (RR.mk x.r.l x.r.e)) (wr IntKind.u64 x.n)).snd.e != (0:Int))=true →
 ((x.r.l=x.r.l∧x.r.e=x.r.e∧True)∧(uintR (ofR (RR.mk x.r.l x.r.e)) (wr IntKind.u64 x.n)).snd.e=(uintR (ofR (RR.mk x.r.l x.r.e)) (wr
 IntKind.u64 x.n)).snd.e)∧True∧True∧(((countR (ofR x.r) x.n).snd.left=x.r.l∧((countR (ofR x.r) x.n).snd.e=if x.r.e=(0:Int) then (uintR
 (ofR (RR.mk x.r.l x.r.e)) (wr IntKind.u64 x.n)).snd.e else x.r.e)∧True)∧(countR (ofR x.r) x.n).fst=(0:Int))∧True∧True)∧(((uintR (ofR
 (RR.mk x.r.l x.r.e)) (wr IntKind.u64 x.n)).snd.e != (0:Int))=false→(↑(uintR (ofR (RR.mk x.r.l x.r.e)) (wr IntKind.u64 x.n)).snd.left.length :
 Int)≤(9223372036854775807:Int)→(decide ((uintR (ofR (RR.mk x.r.l x.r.e)) (wr IntKind.u64 x.n)).fst>wr IntKind.u64 (↑(uintR (ofR (RR.mk x.r.l
 x.r.e)) (wr IntKind.u64 x.n)).snd.left.length:Int))=true→((x.r.l=x.r.l∧x.r.e=x.r.e∧True)∧(2:Int)=(2:Int))∧True∧True ∧
 (((countR (ofR x.r) x.n).snd.left=x.r.l∧((countR (ofR x.r) x.n).snd.e=if x.r.e=(0:Int) then (2:Int) else x.r.e)∧True)∧(countR (ofR x.r)
 x.n).fst=(0:Int))∧True∧True)∧(decide ((uintR (ofR (RR.mk x.r.l x.r.e)) (wr IntKind.u64 x.n)).fst>wr IntKind.u64 (↑(uintR (ofR (RR.mk x.r.l
 x.r.e)) (wr IntKind.u64 x.n)).snd.left.length:Int))=false→(((countR (ofR x.r) x.n).snd.left=(uintR (ofR (RR.mk x.r.l x.r.e)) (wr IntKind.u64
 x.n)).snd.left∧(countR (ofR x.r) x.n).snd.e=(uintR (ofR (RR.mk x.r.l x.r.e)) (wr IntKind.u64 x.n)).snd.e∧True)∧(countR (ofR x.r) x.n).fst=wr
 IntKind.i64 (uintR (ofR (RR.mk x.r.l x.r.e)) (wr IntKind.u64 x.n)).fst)∧True∧True)))
theorem rrCount_eq:rrCountVC=fnS F182 f70 (bodyOf f70) rrCountLS noAnn:=by kernel_rfl
theorem rrCount_vc:rrCountVC:=by
 rintro ⟨⟨l,e⟩,m⟩ hx
 have hm:0≤m:=hx.lo
 have hm2:m≤1000000:=hx.hi
 have hw:wr .u64 m=m:=by rw [wr64u]; omega
 have hlt:¬m<0:=by omega
 have hok:(RRn.mk (RR.mk l e) m).Ok:=hx.toOk
 have hr:(RR.mk l e).Ok:=hx.r
 by_cases he:e=0
 case neg=>simp [uintR,countR,ofR,he,Rd.left,hw,hlt,hok]
 subst he
 have hL:(ofR ⟨l,0⟩).left=l:=rfl
 have hE0:(ofR ⟨l,0⟩).e=0:=rfl
 by_cases hz:numE l m=0
 case neg=>
  simp [uintR,countR,hL,hE0,hz,hw,hlt,hok]
  simp [ofR,Rd.left]
 have nf:=num_facts hr.of (m:=m) (by rw [hL]; exact hz)
 rw [hL] at nf
 have hlen:l.length≤1000000000000:=hr.len
 have e1:(Rd.mk l (numW l) 0).left=l.drop (numW l).toNat:=by
  rfl
 have e2:(((Rd.mk l (numW l) 0).left.length:Nat):Int)=(l.length:Int)-numW l:=by
  rw [e1,List.length_drop]
  omega
 have hw2:wr .u64 (((Rd.mk l (numW l) 0).left.length:Nat):Int)=(l.length:Int)-numW l:=by
  rw [e2,wr64u]
  omega
 have hw3:wr .i64 (numV l)=numV l:=wr64 (by unfold inI64; omega)
 have hu:uintR (ofR ⟨l,0⟩) m=(numV l,⟨l,numW l,0⟩):=by
  unfold uintR
  rw [if_neg (by simp [hE0]),hL,if_neg (by simp [hz])]
  show (numV l,Rd.mk l (0+numW l) 0)=_
  rw [Int.zero_add]
 by_cases hc:numV l>(l.length:Int)-numW l
 ·have hcr:countR (ofR ⟨l,0⟩) m=(0,⟨l,0,2⟩):=by
   unfold countR
   rw [if_neg (by simp [hE0]),hL,if_neg (by simp [hz]),if_pos hc]
   rfl
  simp [hu,hcr,hw,hlt,hok,hw2,hc]
  simp [Rd.left]
 ·have hcr:countR (ofR ⟨l,0⟩) m=(numV l,⟨l,numW l,0⟩):=by
   unfold countR
   rw [if_neg (by simp [hE0]),hL,if_neg (by simp [hz]),if_neg hc]
   show (numV l,Rd.mk l (0+numW l) 0)=_
   rw [Int.zero_add]
  simp [hu,hcr,hw,hlt,hok,hw2,hw3,hc]
theorem rrCount_ok:Fits F182 f70 (bodyOf f70) rrCountLS noAnn:=by
 constructor
 rw [← rrCount_eq]
 exact rrCount_vc
theorem rrCount_has:Has prog 70 f70 (bodyOf f70):=⟨by kernel_rfl,by kernel_rfl,by kernel_rfl⟩
theorem known183:Known prog L183:=by
 unfold L183
 exact known182.lent mixed rrCount_has F182_eq rrCount_ok (fun _ _=>Nat.zero_le _) (fun _ _=>rfl)
def rrDoneVC:Prop:=∀ (x:RR),True→((x.e==(0:Int))=true→(x.l.length:Int)≤(9223372036854775807:Int)→(decide ((x.l.length:Int)>(0:Int))=true →
 doneL x=(3:Int)∧True∧True)∧(decide ((x.l.length:Int)>(0:Int))=false→doneL x=x.e∧True∧True))∧((x.e==(0:Int))=false →
 doneL x=x.e∧True∧True)
theorem rrDone_eq:rrDoneVC=fnS F185 f55 (bodyOf f55) rrDoneLS noAnn:=by kernel_rfl
theorem rrDone_vc:rrDoneVC:=by
 rintro ⟨l,e⟩ _
 by_cases he:e=0
 ·subst he
  cases l with
  | nil=>simp [doneL]
  | cons c s=>
   simp [doneL]
 ·simp [doneL,he]
theorem rrDone_ok:Fits F185 f55 (bodyOf f55) rrDoneLS noAnn:=by
 constructor
 rw [← rrDone_eq]
 exact rrDone_vc
theorem rrDone_has:Has prog 55 f55 (bodyOf f55):=⟨by kernel_rfl,by kernel_rfl,by kernel_rfl⟩
def rrHashVC:Prop:=∀ (x:RR),x.Ok→((x.e != (0:Int))=true→((((hashR (ofR x)).snd.left=x.l∧(hashR (ofR x)).snd.e=x.e∧True)∧(hashR (ofR x)).fst =
 List.replicate (32:Nat) (0:Int)∧True)∧True∧True)∧(((hashR (ofR x)).snd.left=x.l∧(hashR (ofR x)).snd.e=x.e∧True)∧(hashR (ofR
 x)).fst=List.replicate (32:Nat) (0:Int)∧True)∧True∧True)∧((x.e != (0:Int))=false→(x.l.length:Int)≤(9223372036854775807:Int)
 → (decide ((x.l.length:Int)<(32:Int))=true→(((x.l=x.l∧x.e=x.e∧True)∧(12:Int)=(12:Int))∧True∧True∧((((hashR (ofR
 x)).snd.left=x.l∧((hashR (ofR x)).snd.e=if x.e=(0:Int) then (12:Int) else x.e)∧True)∧(hashR (ofR x)).fst=List.replicate (32:Nat) (0
 : Int)∧True)∧True∧True)∧(((hashR (ofR x)).snd.left=x.l∧((hashR (ofR x)).snd.e=if x.e=(0:Int) then (12:Int) else x.e)∧True) ∧
 (hashR (ofR x)).fst=List.replicate (32:Nat) (0:Int)∧True)∧True∧True)∧((x.l=x.l∧x.e=x.e∧True)∧(12:Int)=(12:Int))∧True ∧
 True∧(((hashR (ofR x)).snd.left=x.l∧((hashR (ofR x)).snd.e=if x.e=(0:Int) then (12:Int) else x.e)∧True)∧(hashR (ofR x)).fst =
 List.replicate (32:Nat) (0:Int)∧True)∧True∧True)∧(decide ((x.l.length:Int)<(32:Int))=false→(∃ (x_1:Nat),Nat.le x_1 (32:Nat)∧(↑x_1
 : Int)=(0:Int)∧((x.l=x.l∧x.e=x.e∧True)∧((SV.val (A:=AA) (Value.slice none (0:Nat) (0:Nat)):SV AA)=SV.val (A:=AA)
 (Value.slice none (0:Nat) (0:Nat))∧(0:Int)=(0:Int)∧True)∧(List.replicate (32:Nat) (0:Int)=List.replicate (32:Nat) (0:Int) ∧
 True)∧(List.take x_1 x.l++List.replicate ((32:Nat)-x_1) (0:Int)=List.replicate (32:Nat) (0:Int)∧True)∧True)∧True)∧∀ (x_1 :
 Nat),x_1.le (32:Nat)→(decide ((x_1:Int)<(32:Int))=true→(0:Int)≤(x_1:Int)∧(x_1:Int)<(x.l.length:Int)∧(↑x_1 :
 Int).toNat<x.l.length∧(0:Int)≤(x_1:Int)∧(x_1:Int)<(↑(32:Nat):Int)∧∀ (ys:List Int),ys=(List.take x_1 x.l++List.replicate
 ((32:Nat)-x_1) (0:Int)).set (x_1:Int).toNat (x.l.getD (x_1:Int).toNat (0:Int))→inI64 ((x_1:Int)+(1:Int))∧∃ (y:Nat),Nat.le y (32 :
 Nat)∧(32:Nat)-y<(32:Nat)-x_1∧(y:Int)=(x_1:Int)+(1:Int)∧((x.l=x.l∧x.e=x.e∧True)∧((SV.val (A:=AA) (Value.slice
 none (0:Nat) (0:Nat)):SV AA)=SV.val (A:=AA) (Value.slice none (0:Nat) (0:Nat))∧(0:Int)=(0:Int)∧True)∧(List.replicate (32 :
 Nat) (0:Int)=List.replicate (32:Nat) (0:Int)∧True)∧(List.take y x.l++List.replicate ((32:Nat)-y) (0:Int)=ys∧True)∧True) ∧
 True)∧(decide ((x_1:Int)<(32:Int))=false→(0:Int)≤(32:Int)∧(32:Int)≤(x.l.length:Int)∧(x.l.length:Int)≤(↑x.l.length :
 Int)∧((((hashR (ofR x)).snd.left=List.drop (Int.toNat (32:Int)) (List.take (x.l.length:Int).toNat x.l)∧(hashR (ofR x)).snd.e=x.e∧True) ∧
 (hashR (ofR x)).fst=List.take x_1 x.l++List.replicate ((32:Nat)-x_1) (0:Int)∧True)∧True∧True)∧(((hashR (ofR x)).snd.left=List.drop
 (Int.toNat (32:Int)) (List.take (x.l.length:Int).toNat x.l)∧(hashR (ofR x)).snd.e=x.e∧True)∧(hashR (ofR x)).fst=List.take x_1 x.l ++
 List.replicate ((32:Nat)-x_1) (0:Int)∧True)∧True∧True)))
theorem rrHash_eq:rrHashVC=fnS F183 f71 (bodyOf f71) rrHashLS rrHashAnn:=by kernel_rfl
theorem rrHash_vc:rrHashVC:=by
 rintro ⟨l,e⟩ hr
 have hlen:l.length≤1000000000000:=hr.len
 have hL:(ofR ⟨l,e⟩).left=l:=rfl
 by_cases he:e=0
 case neg=>simp [hashR,ofR,he,Rd.left]
 subst he
 have hE0:(ofR ⟨l,0⟩).e=0:=rfl
 by_cases hz:l.length<32
 ·have hz':(l.length:Int)<32:=by omega
  simp [hashR,hL,hE0,hz,hz']
  simp [ofR,Rd.left]
 have hz':¬(l.length:Int)<32:=by omega
 have hh:hashR (ofR ⟨l,0⟩)=(l.take 32,⟨l,0+32,0⟩):=by
  unfold hashR
  rw [if_neg (by simp [hE0]),hL,if_neg hz]
  rfl
 have hd:(Rd.mk l (0+32) 0).left=l.drop 32:=rfl
 refine ⟨fun h=>by simp at h,fun _ _=>⟨fun h=>absurd (of_decide_eq_true h) hz',fun _=>⟨⟨0,Nat.zero_le _,rfl,⟨⟨rfl,rfl,trivial⟩,⟨rfl,rfl,trivial⟩,⟨rfl,trivial⟩,⟨rfl,trivial⟩,trivial⟩,trivial⟩,fun k hk=>⟨fun h=>?_,fun h=>?_⟩⟩⟩⟩
 ·have h':(k:Int)<32:=of_decide_eq_true h
  have hk':k<l.length:=by omega
  refine ⟨by omega,by simp only; omega,hk',by omega,by omega,fun ys hy=>⟨by unfold inI64; omega,k+1,by show k+1≤32; omega,by omega,by omega,⟨⟨rfl,rfl,trivial⟩,⟨rfl,rfl,trivial⟩,⟨rfl,trivial⟩,⟨?_,trivial⟩,trivial⟩,trivial⟩⟩
  rw [hy]
  show l.take (k+1)++List.replicate (32-(k+1)) 0=(l.take k++List.replicate (32-k) 0).set k (l.getD k 0)
  have e1:(l.take k).length=k:=by rw [List.length_take]; omega
  rw [List.set_append_right _ _ (by omega),e1,Nat.sub_self,show 32-k=(32-(k+1))+1 by omega,List.replicate_succ,List.set_cons_zero,List.getD_eq_getElem?_getD,List.getElem?_eq_getElem hk']
  have e5:l.take (k+1)=l.take k++[l[k]]:=by rw [List.take_add_one,List.getElem?_eq_getElem hk']; rfl
  rw [e5,List.append_assoc]
  rfl
 ·have h':¬(k:Int)<32:=of_decide_eq_false h
  have hk2:k≤32:=hk
  have e:k=32:=by omega
  subst e
  rw [hh]
  have e2:(Rd.mk l (0+32) 0).left=l.drop 32:=rfl
  have e3:List.take (l.length:Int).toNat l=l:=by rw [Int.toNat_natCast,List.take_length]
  have fin:(((Rd.mk l (0+32) 0).left=List.drop (Int.toNat (32:Int)) (List.take (l.length:Int).toNat l)∧(Rd.mk l (0+32) 0).e=0∧True)∧l.take 32=l.take 32++List.replicate (32-32) 0∧True)∧True∧True:=by
   rw [e3]
   exact ⟨⟨⟨rfl,rfl,trivial⟩,by simp,trivial⟩,trivial,trivial⟩
  exact ⟨by omega,by simp only; omega,by omega,fin,fin⟩
theorem rrHash_ok:Fits F183 f71 (bodyOf f71) rrHashLS rrHashAnn:=by
 constructor
 rw [← rrHash_eq]
 exact rrHash_vc
theorem rrHash_has:Has prog 71 f71 (bodyOf f71):=⟨by kernel_rfl,by kernel_rfl,by kernel_rfl⟩
theorem known184:Known prog L184:=by
 unfold L184
 exact known183.lent mixed rrHash_has F183_eq rrHash_ok (fun _ _=>Nat.zero_le _) (fun _ _=>rfl)
def rrBytesVC:Prop:=∀ (x:RRn),x.Few→((x.r.e != (0:Int))=true→(((bytesR (ofR x.r) x.n).snd.left=x.r.l∧(bytesR (ofR x.r) x.n).snd.e=x.r.e∧True)∧(bytesR
 (ofR x.r) x.n).fst=[])∧True∧True)∧((x.r.e != (0:Int))=false→(decide (x.n<(0:Int))=true→((x.r.l=x.r.l∧x.r.e=x.r.e∧True) ∧
 (1:Int)=(1:Int))∧True∧True∧(((bytesR (ofR x.r) x.n).snd.left=x.r.l∧((bytesR (ofR x.r) x.n).snd.e=if x.r.e=(0:Int) then (1:Int)
 else x.r.e)∧True)∧(bytesR (ofR x.r) x.n).fst=[])∧True∧True)∧(decide (x.n<(0:Int))=false→(∃ (x_1:ScanX),(x_1.i≤x.r.l.length ∧
 (x_1.out.length:Int)≤x.n∧scanB x.n x.r.l [] (0:Nat)=scanB x.n (List.drop x_1.i x.r.l) x_1.out x_1.i)∧((x_1.i:Int)=(0:Int)∧(SV.val
 (A:=AA) (Value.slice none (0:Nat) (0:Nat)):SV AA)=SV.val (A:=AA) (Value.slice none (0:Nat) (0:Nat)))∧((x.r.l=x.r.l∧x.r.e=x.r.e
 ∧ True)∧((SV.val (A:=AA) (Value.slice none (0:Nat) (0:Nat)):SV AA)=SV.val (A:=AA) (Value.slice none (0:Nat) (0:Nat))∧(0:Int)=(0
 : Int)∧True)∧True)∧x_1.out=[]∧True)∧∀ (x_1:ScanX),x_1.i≤x.r.l.length∧(x_1.out.length:Int)≤x.n∧scanB x.n x.r.l [] (0:Nat) =
 scanB x.n (List.drop x_1.i x.r.l) x_1.out x_1.i→(x.r.l.length:Int)≤(9223372036854775807:Int)→(decide ((x_1.i:Int)<(↑x.r.l.length :
 Int))=true→(0:Int)≤(x_1.i:Int)∧(x_1.i:Int)<(x.r.l.length:Int)∧(x_1.i:Int).toNat<x.r.l.length∧((x.r.l.getD (↑x_1.i :
 Int).toNat (0:Int)==(0:Int))=true→inI64 ((x_1.i:Int)+(1:Int))∧((x.r.l.length:Int)≤(9223372036854775807:Int)→(((↑x_1.i :
 Int)+(1:Int)==(x.r.l.length:Int))=true→((x.r.l=x.r.l∧x.r.e=x.r.e∧True)∧(12:Int)=(12:Int))∧True∧True∧(((bytesR (ofR
 x.r) x.n).snd.left=x.r.l∧((bytesR (ofR x.r) x.n).snd.e=if x.r.e=(0:Int) then (12:Int) else x.r.e)∧True)∧(bytesR (ofR x.r) x.n).fst =
 [])∧True∧True)∧(((x_1.i:Int)+(1:Int)==(x.r.l.length:Int))=false→inI64 ((x_1.i:Int)+(1:Int))∧(0:Int)≤(x_1.i:Int) +
 (1:Int)∧(x_1.i:Int)+(1:Int)<(x.r.l.length:Int)∧((x_1.i:Int)+(1:Int)).toNat<x.r.l.length∧((x.r.l.getD ((x_1.i:Int)+(1
 : Int)).toNat (0:Int)==(0:Int))=true→inI64 ((x_1.i:Int)+(2:Int))∧(0:Int)≤(x_1.i:Int)+(2:Int)∧(x_1.i:Int)+(2:Int)
 ≤ (x.r.l.length:Int)∧(x.r.l.length:Int)≤(x.r.l.length:Int)∧(((bytesR (ofR x.r) x.n).snd.left=List.drop ((x_1.i:Int)+(2 :
 Int)).toNat (List.take (x.r.l.length:Int).toNat x.r.l)∧(bytesR (ofR x.r) x.n).snd.e=x.r.e∧True)∧(bytesR (ofR x.r) x.n).fst=x_1.out)∧True
 ∧ True)∧((x.r.l.getD ((x_1.i:Int)+(1:Int)).toNat (0:Int)==(0:Int))=false→inI64 ((x_1.i:Int)+(1:Int))∧(0:Int)≤(↑x_1.i :
 Int)+(1:Int)∧(x_1.i:Int)+(1:Int)<(x.r.l.length:Int)∧((x_1.i:Int)+(1:Int)).toNat<x.r.l.length∧((x.r.l.getD ((↑x_1.i :
 Int)+(1:Int)).toNat (0:Int) != (255:Int))=true→((x.r.l=x.r.l∧x.r.e=x.r.e∧True)∧(3:Int)=(3:Int))∧True∧True∧(((bytesR
 (ofR x.r) x.n).snd.left=x.r.l∧((bytesR (ofR x.r) x.n).snd.e=if x.r.e=(0:Int) then (3:Int) else x.r.e)∧True)∧(bytesR (ofR x.r) x.n).fst
 = [])∧True∧True)∧((x.r.l.getD ((x_1.i:Int)+(1:Int)).toNat (0:Int) != (255:Int))=false→(x_1.out.length:Int) ≤
 (9223372036854775807:Int)→(decide ((x_1.out.length:Int)≥x.n)=true→((x.r.l=x.r.l∧x.r.e=x.r.e∧True)∧(2:Int)=(2:Int))∧True
 ∧ True∧(((bytesR (ofR x.r) x.n).snd.left=x.r.l∧((bytesR (ofR x.r) x.n).snd.e=if x.r.e=(0:Int) then (2:Int) else x.r.e)∧True)∧(bytesR
 (ofR x.r) x.n).fst=[])∧True∧True)∧(decide ((x_1.out.length:Int)≥x.n)=false→(0:Int)≤(x_1.i:Int)∧(x_1.i:Int) <
 (x.r.l.length:Int)∧(x_1.i:Int).toNat<x.r.l.length∧(x_1.out.length+[x.r.l.getD (x_1.i:Int).toNat (0:Int)].length)*(1:Nat) ≤
 (140737488355328:Nat)∧x_1.out.length+[x.r.l.getD (x_1.i:Int).toNat (0:Int)].length≤(1152921504606846976:Nat)∧inI64 ((x_1.i:Int) +
 (2:Int))∧∃ (y:ScanX),(y.i≤x.r.l.length∧(y.out.length:Int)≤x.n∧scanB x.n x.r.l [] (0:Nat)=scanB x.n (List.drop y.i x.r.l) y.out y.i) ∧
 x.r.l.length-y.i<x.r.l.length-x_1.i∧((y.i:Int)=(x_1.i:Int)+(2:Int)∧True)∧((x.r.l=x.r.l∧x.r.e=x.r.e∧True)∧(SV.val (A
 := AA) (Value.slice none (0:Nat) (0:Nat))=SV.val (A:=AA) (Value.slice none (0:Nat) (0:Nat))∧(0:Int)=(0:Int)∧True)∧True)∧y.out
 = x_1.out++[x.r.l.getD (x_1.i:Int).toNat (0:Int)]∧True))))))∧((x.r.l.getD (x_1.i:Int).toNat (0:Int)==(0:Int))=false →
 (x_1.out.length:Int)≤(9223372036854775807:Int)→(decide ((x_1.out.length:Int)≥x.n)=true→((x.r.l=x.r.l∧x.r.e=x.r.e∧True)∧(2 :
 Int)=(2:Int))∧True∧True∧(((bytesR (ofR x.r) x.n).snd.left=x.r.l∧((bytesR (ofR x.r) x.n).snd.e=if x.r.e=(0:Int) then (2:Int) else
 x.r.e)∧True)∧(bytesR (ofR x.r) x.n).fst=[])∧True∧True)∧(decide ((x_1.out.length:Int)≥x.n)=false→(0:Int)≤(x_1.i:Int) ∧
 (x_1.i:Int)<(x.r.l.length:Int)∧(x_1.i:Int).toNat<x.r.l.length∧(x_1.out.length+[x.r.l.getD (x_1.i:Int).toNat (0:Int)].length) *
 (1:Nat)≤(140737488355328:Nat)∧x_1.out.length+[x.r.l.getD (x_1.i:Int).toNat (0:Int)].length≤(1152921504606846976:Nat)∧inI64
 ((x_1.i:Int)+(1:Int))∧∃ (y:ScanX),(y.i≤x.r.l.length∧(y.out.length:Int)≤x.n∧scanB x.n x.r.l [] (0:Nat)=scanB x.n (List.drop y.i x.r.l)
 y.out y.i)∧x.r.l.length-y.i<x.r.l.length-x_1.i∧((y.i:Int)=(x_1.i:Int)+(1:Int)∧True)∧((x.r.l=x.r.l∧x.r.e=x.r.e∧True) ∧
 ((SV.val (A:=AA) (Value.slice none (0:Nat) (0:Nat)):SV AA)=SV.val (A:=AA) (Value.slice none (0:Nat) (0:Nat))∧(0:Int)=(0:Int) ∧
 True)∧True)∧y.out=x_1.out++[x.r.l.getD (x_1.i:Int).toNat (0:Int)]∧True)))∧(decide ((x_1.i:Int)<(x.r.l.length:Int))=false →
 ((x.r.l=x.r.l∧x.r.e=x.r.e∧True)∧(12:Int)=(12:Int))∧True∧True∧(((bytesR (ofR x.r) x.n).snd.left=x.r.l∧((bytesR (ofR x.r)
 x.n).snd.e=if x.r.e=(0:Int) then (12:Int) else x.r.e)∧True)∧(bytesR (ofR x.r) x.n).fst=[])∧True∧True)))
theorem rrBytes_eq:rrBytesVC=fnS F184 f72 (bodyOf f72) rrBytesLS rrBytesAnn:=by kernel_rfl
theorem rrBytes_vc:rrBytesVC:=by
 rintro ⟨⟨l,e⟩,m⟩ hx
 have hr:(RR.mk l e).Ok:=hx.r
 have hm:0≤m:=hx.lo
 have hm2:m≤1000000:=hx.hi
 have hlen:l.length≤1000000000000:=hr.len
 by_cases he:e=0
 case neg=>simp [bytesR,ofR,Rd.left,he]
 subst he
 have err:∀ n:Int,n≠0→scanB m l [] 0=([],n,0)→((l=l∧(0:Int)=0∧True)∧n=n)∧True∧True∧(((bytesR (ofR ⟨l,0⟩) m).snd.left=l∧((bytesR (ofR ⟨l,0⟩) m).snd.e=if (0:Int)=0 then n else 0)∧True)∧(bytesR (ofR ⟨l,0⟩) m).fst=[])∧True∧True:=fun n hn h=>by
  have h':scanB m (ofR ⟨l,0⟩).left [] 0=([],n,0):=h
  rw [bytesR_err rfl h' hn]
  exact ⟨⟨⟨rfl,rfl,trivial⟩,rfl⟩,trivial,trivial,⟨⟨rfl,rfl,trivial⟩,rfl⟩,trivial,trivial⟩
 refine ⟨fun h=>by simp at h,fun _=>⟨fun h=>by simp at h; omega,fun _=>⟨⟨⟨0,[]⟩,⟨Nat.zero_le _,by simpa using hm,rfl⟩,⟨rfl,rfl⟩,⟨⟨rfl,rfl,trivial⟩,⟨rfl,rfl,trivial⟩,trivial⟩,rfl,trivial⟩,?_⟩⟩⟩
 rintro y ⟨hi,ho,hs⟩ _
 simp only at hi ho hs
 generalize y.i=i at hi ho hs ⊢
 generalize y.out=out at hi ho hs ⊢
 refine ⟨fun h=>?_,fun h=>?_⟩
 case refine_2=>
  have h':¬(i:Int)<l.length:=of_decide_eq_false h
  exact err 12 (by omega) (by rw [hs,List.drop_of_length_le (by omega)]; rfl)
 have h':(i:Int)<l.length:=of_decide_eq_true h
 have hi':i<l.length:=by omega
 rw [drop_at hi'] at hs
 refine ⟨by omega,h',hi',fun h0=>⟨by unfold inI64; omega,fun _=>⟨fun h1=>?_,fun h1=>?_⟩⟩,fun h0 _=>⟨fun h3=>?_,fun h3=>?_⟩⟩
 ·have h0':l.getD i 0=0:=by simpa using h0
  have h1':(i:Int)+1=l.length:=by simpa using h1
  rw [h0',List.drop_of_length_le (by omega),scan_last] at hs
  exact err 12 (by omega) hs
 ·have h0':l.getD i 0=0:=by simpa using h0
  have h1':¬(i:Int)+1=l.length:=by simpa using h1
  have hj:i+1<l.length:=by omega
  have ej:((i:Int)+1).toNat=i+1:=by omega
  rw [h0',drop_at hj,scan_zero] at hs
  rw [ej]
  have a1:(0:Int)≤(i:Int)+1:=by omega
  have a2:(i:Int)+1<(l.length:Int):=by omega
  have a5:inI64 ((i:Int)+1):=by unfold inI64; omega
  have a3:inI64 ((i:Int)+2):=by unfold inI64; omega
  refine ⟨a5,a1,a2,hj,fun h2=>⟨a3,by omega,by simp only; omega,Int.le_refl _,?_⟩,fun h2=>⟨a5,a1,a2,hj,fun h3=>?_,fun h3 _=>⟨fun h4=>?_,fun h4=>?_⟩⟩⟩
  ·have h2':l.getD (i+1) 0=0:=by simpa using h2
   rw [if_pos h2'] at hs
   have hs':scanB m (ofR ⟨l,0⟩).left [] 0=(out,0,i+2):=hs
   rw [bytesR_fine rfl hs']
   refine ⟨⟨⟨?_,rfl,trivial⟩,rfl⟩,trivial,trivial⟩
   show List.drop (0+((i+2:Nat):Int)).toNat l=List.drop ((i:Int)+2).toNat (List.take (l.length:Int).toNat l)
   rw [Int.toNat_natCast,List.take_length,show (0+((i+2:Nat):Int)).toNat=((i:Int)+2).toNat by omega]
  ·have h2':¬l.getD (i+1) 0=0:=by simpa using h2
   have h3':l.getD (i+1) 0≠255:=by simpa using h3
   rw [if_neg h2',if_pos h3'] at hs
   exact err 3 (by omega) hs
  ·have h2':¬l.getD (i+1) 0=0:=by simpa using h2
   have h3':¬l.getD (i+1) 0≠255:=by simpa using h3
   have h4':(out.length:Int)=m:=by
    have:(out.length:Int)≥m:=of_decide_eq_true h4
    omega
   rw [if_neg h2',if_neg h3',if_pos h4'] at hs
   exact err 2 (by omega) hs
  ·have h2':¬l.getD (i+1) 0=0:=by simpa using h2
   have h3':¬l.getD (i+1) 0≠255:=by simpa using h3
   have h4':¬(out.length:Int)=m:=by
    have:¬(out.length:Int)≥m:=of_decide_eq_false h4
    omega
   rw [if_neg h2',if_neg h3',if_neg h4'] at hs
   refine ⟨by omega,h',hi',by simp only [List.length_singleton]; omega,by simp only [List.length_singleton]; omega,a3,⟨i+2,out++[0]⟩,⟨by simp only; omega,by simp only [List.length_append,List.length_singleton]; omega,hs⟩,by simp only; omega,⟨by simp only; omega,trivial⟩,⟨⟨rfl,rfl,trivial⟩,⟨rfl,rfl,trivial⟩,trivial⟩,?_,trivial⟩
   show out++[0]=out++[l.getD i 0]
   rw [h0']
 ·have h0':l.getD i 0≠0:=by simpa using h0
  have h3':(out.length:Int)=m:=by
   have:(out.length:Int)≥m:=of_decide_eq_true h3
   omega
  rw [scan_byte h0',if_pos h3'] at hs
  exact err 2 (by omega) hs
 ·have h0':l.getD i 0≠0:=by simpa using h0
  have h3':¬(out.length:Int)=m:=by
   have:¬(out.length:Int)≥m:=of_decide_eq_false h3
   omega
  rw [scan_byte h0',if_neg h3'] at hs
  exact ⟨by omega,h',hi',by simp only [List.length_singleton]; omega,by simp only [List.length_singleton]; omega,by unfold inI64; omega,⟨i+1,out++[l.getD i 0]⟩,⟨hi',by simp only [List.length_append,List.length_singleton]; omega,hs⟩,by simp only; omega,⟨by simp only; omega,trivial⟩,⟨⟨rfl,rfl,trivial⟩,⟨rfl,rfl,trivial⟩,trivial⟩,rfl,trivial⟩
theorem rrBytes_ok:Fits F184 f72 (bodyOf f72) rrBytesLS rrBytesAnn:=by
 constructor
 rw [← rrBytes_eq]
 exact rrBytes_vc
theorem rrBytes_has:Has prog 72 f72 (bodyOf f72):=⟨by kernel_rfl,by kernel_rfl,by kernel_rfl⟩
theorem known185:Known prog L185:=by
 unfold L185
 exact known184.lent mixed rrBytes_has F184_eq rrBytes_ok (fun _ _=>Nat.zero_le _) (fun _ _=>rfl)
theorem known186:Known prog L186:=by
 unfold L186
 exact known185.lent mixed rrDone_has F185_eq rrDone_ok (fun _ _=>Nat.zero_le _) (fun _ _=>rfl)
end Go.Proofs.YtcglahfmnoghjaaGreatDoor

/-! The document's loops stop at the first error: what they read is the same. Conditions: none. -/
namespace Go.Proofs.YtcglahfmnoghjaaGreatDoor
open Go Go.Eng Go.Proofs.Tryz
/-- How far a loop goes that stops where a reader has failed. -/
def stopN (g:Nat→Rd):Nat→Nat
 | 0=>0
 | n+1=>if stopN g n=n∧(g n).e=0 then n+1 else stopN g n
theorem stop_le (g:Nat→Rd):∀ n,stopN g n≤n
 | 0=>Nat.le_refl _
 | n+1=>by
  have:=stop_le g n
  simp only [stopN]
  split<;>omega
theorem stop_up {g:Nat→Rd} {n:Nat} (h:stopN g n=n) (h0:(g n).e=0):stopN g (n+1)=n+1:=by
 simp only [stopN]
 rw [if_pos ⟨h,h0⟩]
theorem stop_here {g:Nat→Rd} {n:Nat} (h:stopN g n=n) (h0:(g n).e≠0):∀ m,n≤m→stopN g m=n
 | 0,hm=>by
  have e:n=0:=by omega
  subst e
  exact h
 | m+1,hm=>by
  rcases Nat.lt_or_ge m n with h1 | h1
  ·have e:n=m+1:=by omega
   subst e
   exact h
  ·have ih:=stop_here h h0 m h1
   simp only [stopN]
   rw [if_neg,ih]
   rintro ⟨h2,h3⟩
   have e:n=m:=by omega
   subst e
   exact h0 h3
/-- Where a loop that stops early stops: at its end, or at the first failed reader. -/
theorem stop_end (g:Nat→Rd):∀ n,stopN g n=n∨(g (stopN g n)).e≠0
 | 0 => .inl rfl
 | n+1=>by
  simp only [stopN]
  split
  ·exact .inl rfl
  ·rename_i h
   rcases stop_end g n with h1 | h1
   ·refine .inr ?_
    rw [h1]
    exact fun h2=>h ⟨h1,h2⟩
   ·exact .inr h1
def rKeys (m:Nat) (r:Rd):List Int×Rd:=dKeys (stopN (fun i=>(dKeys i r).2) m) r
def rK (r:Rd):List Int×Rd:=rKeys (countR r 16).1.toNat (countR r 16).2
def rH (r:Rd):List Int×Rd:=hashR (rK r).2
def rA (r:Rd):Int×Rd:=uintR (rH r).2 1099511627776
def rO (r:Rd):Int×Rd:=uintR (rA r).2 65536
def rBr (r:Rd):Br×Rd:=(⟨(rK r).1,(rH r).1,(rA r).1,(rO r).1⟩,(rO r).2)
def rBrs:Nat→Rd→List Br×Rd
 | 0,r=>([],r)
 | k+1,r=>((rBrs k r).1++[(rBr (rBrs k r).2).1],(rBr (rBrs k r).2).2)
def rC (r:Rd):List Br×Rd:=rBrs (stopN (fun i=>(rBrs i (countR r 8).2).2) (countR r 8).1.toNat) (countR r 8).2
theorem dKeys_more {r:Rd} {k:Nat} (h:(dKeys k r).2.e≠0):∀ m,k≤m→(dKeys m r).2=(dKeys k r).2
 | 0,hm=>by
  have e:k=0:=by omega
  subst e
  rfl
 | m+1,hm=>by
  rcases Nat.lt_or_ge m k with h1 | h1
  ·have e:k=m+1:=by omega
   subst e
   rfl
  ·have ih:=dKeys_more h m h1
   show (uintR (dKeys m r).2 16).2=_
   rw [ih,uint_dead h]
theorem rKeys_two (m:Nat) (r:Rd):(rKeys m r).2=(dKeys m r).2∧((rKeys m r).2.e=0→rKeys m r=dKeys m r):=by
 unfold rKeys
 rcases stop_end (fun i=>(dKeys i r).2) m with h | h
 ·rw [h]
  exact ⟨rfl,fun _=>rfl⟩
 ·exact ⟨(dKeys_more h m (stop_le _ m)).symm,fun h2=>(h h2).elim⟩
theorem rBr_two (r:Rd):(rBr r).2=(dBr r).2∧((rBr r).2.e=0→(rBr r).1=(dBr r).1):=by
 obtain ⟨h1,h2⟩:=rKeys_two (countR r 16).1.toNat (countR r 16).2
 change (rK r).2=(dK r).2 at h1
 change (rK r).2.e=0→rK r=dK r at h2
 have eH:rH r=dH r:=by unfold rH dH; rw [h1]
 have eA:rA r=dA r:=by unfold rA dA; rw [eH]
 have eO:rO r=dO r:=by unfold rO dO; rw [eA]
 refine ⟨by show (rO r).2=(dO r).2; rw [eO],fun h=>?_⟩
 have h3:(rK r).2.e=0:=Classical.byContradiction fun h3=>by
  have:(rO r).2.e≠0:=by
   show (uintR (uintR (hashR (rK r).2).2 1099511627776).2 65536).2.e≠0
   rw [hash_dead h3,uint_dead h3,uint_dead h3]
   exact h3
  exact this h
 show Br.mk (rK r).1 (rH r).1 (rA r).1 (rO r).1=Br.mk (dK r).1 (dH r).1 (dA r).1 (dO r).1
 rw [h2 h3,eH,eA,eO]
theorem rBrs_two (r:Rd):∀ k,(rBrs k r).2=(dBrs k r).2∧((rBrs k r).2.e=0→(rBrs k r).1=(dBrs k r).1)
 | 0=>⟨rfl,fun _=>rfl⟩
 | k+1=>by
  obtain ⟨h1,h2⟩:=rBrs_two r k
  obtain ⟨h3,h4⟩:=rBr_two (rBrs k r).2
  refine ⟨?_,fun h=>?_⟩
  ·show (rBr (rBrs k r).2).2=(dBr (dBrs k r).2).2
   rw [h3,h1]
  ·change (rBr (rBrs k r).2).2.e=0 at h
   have h5:(rBrs k r).2.e=0:=Classical.byContradiction fun h5=>by
    rw [h3] at h
    exact br_dead h5 h
   show (rBrs k r).1++[(rBr (rBrs k r).2).1]=(dBrs k r).1++[(dBr (dBrs k r).2).1]
   rw [h2 h5,h4 h,h1]
theorem dBrs_more {r:Rd} {k:Nat} (h:(dBrs k r).2.e≠0):∀ m,k≤m→(dBrs m r).2.e≠0
 | 0,hm=>by
  have e:k=0:=by omega
  subst e
  exact h
 | m+1,hm=>by
  rcases Nat.lt_or_ge m k with h1 | h1
  ·have e:k=m+1:=by omega
   subst e
   exact h
  ·exact br_dead (dBrs_more h m h1)
/-- Both read the same, where both read. -/
theorem rC_two (r:Rd):((rC r).2.e=0∧rC r=dC r)∨((rC r).2.e≠0∧(dC r).2.e≠0):=by
 unfold rC dC
 obtain ⟨h1,h2⟩:=rBrs_two (countR r 8).2 (stopN (fun i=>(rBrs i (countR r 8).2).2) (countR r 8).1.toNat)
 rcases stop_end (fun i=>(rBrs i (countR r 8).2).2) (countR r 8).1.toNat with h | h
 ·rw [h] at h1 h2 ⊢
  by_cases h3:(rBrs (countR r 8).1.toNat (countR r 8).2).2.e=0
  ·exact .inl ⟨h3,Prod.ext (h2 h3) h1⟩
  ·exact .inr ⟨h3,by rw [← h1]; exact h3⟩
 ·refine .inr ⟨h,?_⟩
  have h4:(dBrs (stopN (fun i=>(rBrs i (countR r 8).2).2) (countR r 8).1.toNat) (countR r 8).2).2.e≠0:=by
   rw [← h1]; exact h
  exact dBrs_more h4 _ (stop_le _ _)
theorem done_to {r:Rd} (h:r.Ok):doneL (toR r)=doneR r:=by
 unfold doneL doneR toR
 have hl:=left_len r h
 by_cases he:r.e=0
 ·rw [if_neg (c:=r.e≠0) (by simp [he])]
  by_cases hi:r.i<r.b.length
  ·rw [if_pos hi,if_pos]
   refine ⟨he,fun e=>?_⟩
   have e:r.left=[]:=e
   rw [e] at hl
   simp only [List.length_nil] at hl
   omega
  ·rw [if_neg hi,if_neg]
   ·exact he
   ·rintro ⟨_,h2⟩
    refine h2 (List.eq_nil_of_length_eq_zero ?_)
    show r.left.length=0
    omega
 ·rw [if_pos (c:=r.e≠0) he,if_neg (fun h2=>he h2.1)]
end Go.Proofs.YtcglahfmnoghjaaGreatDoor

/-! The document's condition, and transaction, of bytes: what is said of them. Conditions: none. -/
namespace Go.Proofs.YtcglahfmnoghjaaGreatDoor
open Go Go.Eng Go.Proofs.Tryz
theorem uint_same {r r':Rd} (h:r.Ok) (h':r'.Ok) (e:toR r=toR r') {m:Int} (hm:0≤m):(uintR r m).1=(uintR r' m).1∧toR (uintR r m).2=toR (uintR r' m).2:=by
 obtain ⟨a,b⟩:=uint_to h hm
 obtain ⟨c,d⟩:=uint_to h' hm
 rw [e] at a b
 exact ⟨a.symm.trans c,b.symm.trans d⟩
theorem count_same {r r':Rd} (h:r.Ok) (h':r'.Ok) (e:toR r=toR r') {m:Int} (hm:0≤m):(countR r m).1=(countR r' m).1∧toR (countR r m).2=toR (countR r' m).2:=by
 obtain ⟨a,b⟩:=count_to h hm
 obtain ⟨c,d⟩:=count_to h' hm
 rw [e] at a b
 exact ⟨a.symm.trans c,b.symm.trans d⟩
theorem hash_same {r r':Rd} (h:r.Ok) (h':r'.Ok) (e:toR r=toR r'):(hashR r).1=(hashR r').1∧toR (hashR r).2=toR (hashR r').2:=by
 obtain ⟨a,b⟩:=hash_to h
 obtain ⟨c,d⟩:=hash_to h'
 rw [e] at a b
 exact ⟨a.symm.trans c,b.symm.trans d⟩
theorem keys_same {r r':Rd} (h:r.Ok) (h':r'.Ok) (e:toR r=toR r'):∀ k,(dKeys k r).1=(dKeys k r').1∧toR (dKeys k r).2=toR (dKeys k r').2
 | 0=>⟨rfl,e⟩
 | k+1=>by
  obtain ⟨h1,h2⟩:=keys_same h h' e k
  obtain ⟨h3,h4⟩:=uint_same (keysR_ok h k).1 (keysR_ok h' k).1 h2 (m:=16) (by omega)
  refine ⟨?_,h4⟩
  show (dKeys k r).1++[(uintR (dKeys k r).2 16).1]=(dKeys k r').1++[(uintR (dKeys k r').2 16).1]
  rw [h1,h3]
theorem to_e {r r':Rd} (e:toR r=toR r'):r.e=r'.e:=congrArg RR.e e
def rTakeLS:LS AA where
 X:=RR
 pre:=RR.Ok
 args:=fun r=>[.agg (rrSL r)]
 hin:=fun _=>[]
 res:=fun r=>[.agg (rrSL (toR (rC (ofR r)).2)),.agg (.cell (.rseq 85 (show List (AA 85) from (rC (ofR r)).1)) .nil)]
 hout:=fun _=>[]
/-- What a box holds: a reader of the document's. -/
def rrAt (sh:List (SO AA)):SV AA→Option RR
 | .ptr i 0=>match nth sh i with
  | some (.cells _ cs)=>decRR sh (.agg cs)
  | _=>none
 | _=>none
def rTakeAnn (x:RR):Anns AA:=fun k ts sh=>if k=5 then (match nth ts 1,nth ts 4 with
  | some (.ptr j1 _),some (.ptr j4 _)=>some {
   X:=Nat
   inv:=fun i=>(i:Int)≤(countR (ofR x) 8).1∧stopN (fun i=>(rBrs i (countR (ofR x) 8).2).2) i=i
   meas:=fun i=>(countR (ofR x) 8).1.toNat-i
   slots:=fun i=>[(6,.int .i64 i)]
   heap:=fun i=>[(j1,.cells 113 (rrSL (toR (rBrs i (countR (ofR x) 8).2).2))),(j4,.cells 50 (.cell (.vec (cnt sh)) .nil))]
   more:=fun i=>[.svec 85 (show List (AA 85) from (rBrs i (countR (ofR x) 8).2).1)] }
  | _,_=>none)
 else (match nth ts 1,nth ts 7,nth ts 8 with
  | some (.ptr j1 o1),some (.ptr j7 _),some (.int _ n)=>(match rrAt sh (.ptr j1 o1),nth sh j7 with
   | some r,some (.cells t (.cell _ rest))=>some {
    X:=Nat
    inv:=fun i=>(i:Int)≤n∧stopN (fun i=>(dKeys i (ofR r)).2) i=i
    meas:=fun i=>n.toNat-i
    slots:=fun i=>[(10,.int .i64 i)]
    heap:=fun i=>[(j1,.cells 113 (rrSL (toR (dKeys i (ofR r)).2))),(j7,.cells t (.cell (.vec (cnt sh)) rest))]
    more:=fun i=>[.ivec 3 .i64 (dKeys i (ofR r)).1] }
   | _,_=>none)
  | _,_,_=>none)
def L187:List (Nat×SpecT AA):=(54,tLent rTakeLS rrGet)::L186
end Go.Proofs.YtcglahfmnoghjaaGreatDoor

/-! A transaction's bytes; TxSecrets: what is said of them. Conditions: none. -/
namespace Go.Proofs.YtcglahfmnoghjaaGreatDoor
open Go Go.Eng Go.Proofs.Tryz
/-- What a closure hands back: the secret. -/
def shownLS:LS AA where
 X:=TIn
 pre:=fun _=>True
 args:=fun x=>[.agg (tinSL x)]
 hin:=fun _=>[]
 res:=fun x=>[.rints .u8 x.secret]
 hout:=fun _=>[]
noncomputable def L110:List (Nat×SpecT AA):=(77,tLent shownLS tinGet)::L99
noncomputable def F110:Eng AA:=EF prog L110
theorem F110_eq:F110=EF prog L110:=by
 unfold F110
 rfl
noncomputable def L111:List (Nat×SpecT AA):=(75,tInline F110 f75 (bodyOf f75) tputAnn)::L110
noncomputable def F111:Eng AA:=EF prog L111
theorem F111_eq:F111=EF prog L111:=by
 unfold F111
 rfl
structure EncOk (t:TxD):Prop extends TxOk t where
 s:sumS t.ins≤3000000
noncomputable def encLS:LS AA where
 X:=TxD
 pre:=EncOk
 args:=fun t=>[.agg (txSL t)]
 hin:=fun _=>[]
 res:=fun _=>[.vec 0]
 hout:=fun t=>[.ivec 5 .u8 (putTx (fun x=>x.secret) t)]
noncomputable def L112:List (Nat×SpecT AA):=(32,tLent encLS txGet)::L111
structure SecX where
 t:TxD
 n:Int
 s:List Int
structure SecX.Ok (x:SecX):Prop extends Small x.t,TxOk x.t where
 sum:sumS x.t.ins≤2000000
 bytes:∀ y,y∈x.t.ins→Byt y.secret
end Go.Proofs.YtcglahfmnoghjaaGreatDoor
