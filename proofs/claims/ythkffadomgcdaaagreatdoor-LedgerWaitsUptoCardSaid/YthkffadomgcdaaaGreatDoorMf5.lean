/- Part 5 of the texts behind the last one: what they say stands ahead of each. Conditions: none. -/
import Derived.Test.YthkffadomgcdaaaGreatDoorMf4
/-! Transactions: whether one can be, what its outputs have: plain laws; the walks hold. Conditions: none. -/
namespace Go.Proofs.YthkffadomgcdaaaGreatDoor
open Go Go.Eng Go.Proofs.Tryz
theorem known80:Known prog L80:=by
 unfold L80
 exact known74
def trightVC:Prop:=∀ (x:TIn),True→(decide (x.n≥(0:Int))=true→(decide (x.n<(64:Int))=true→(decide (x.branch≥(0:Int))=true→(decide (x.branch <
 (8:Int))=true→(x.secret.length:Int)≤(9223372036854775807:Int)→inOk x=decide ((x.secret.length:Int)≤(64:Int))∧True∧True) ∧
 (decide (x.branch<(8:Int))=false→inOk x=false∧True∧True))∧(decide (x.branch≥(0:Int))=false→inOk x=false∧True∧True)) ∧
 (decide (x.n<(64:Int))=false→inOk x=false∧True∧True))∧(decide (x.n≥(0:Int))=false→inOk x=false∧True∧True)
theorem tright_eq:trightVC=fnS E80 f69 (bodyOf f69) trightLS noAnn:=by kernel_rfl
theorem tright_vc:trightVC:=by
 intro x _
 unfold inOk
 refine ⟨fun h1=>⟨fun h2=>⟨fun h3=>⟨fun h4 _=>?_,fun h4=>?_⟩,fun h3=>?_⟩,fun h2=>?_⟩,fun h1=>?_⟩
 all_goals
  refine ⟨?_,trivial,trivial⟩
  simp only [decide_eq_true_eq,decide_eq_false_iff_not] at *
  first
  | (rw [decide_eq_true (show 0≤x.n by omega),decide_eq_true h2,decide_eq_true (show 0≤x.branch by omega),decide_eq_true h4]; rfl)
  | (rw [decide_eq_false h4]; simp)
  | (rw [decide_eq_false (show ¬0≤x.branch by omega)]; simp)
  | (rw [decide_eq_false h2]; simp)
  | (rw [decide_eq_false (show ¬0≤x.n by omega)]; simp)
theorem tright_ok:Fits E80 f69 (bodyOf f69) trightLS noAnn:=by
 constructor
 rw [← tright_eq]
 exact tright_vc
theorem f66_has:Has prog 69 f69 (bodyOf f69):=⟨by kernel_rfl,by kernel_rfl,by kernel_rfl⟩
theorem known81:Known prog L81:=by
 unfold L81
 exact known80.lent mixed f66_has E80_eq tright_ok (fun _ _=>Nat.le_refl _) (fun _ _=>rfl)
def oddInVC:Prop:=∀ (x:TIn),True→(x.tx=x.tx∧x.n=x.n∧x.branch=x.branch∧x.secret=x.secret∧True)∧True∧True∧(!inOk x)=!inOk (TIn.mk x.tx x.n
 x.branch x.secret)∧True∧True
theorem oddIn_eq:oddInVC=fnS E81 f68 (bodyOf f68) oddInLS noAnn:=by kernel_rfl
theorem oddIn_ok:Fits E81 f68 (bodyOf f68) oddInLS noAnn:=by
 constructor
 rw [← oddIn_eq]
 exact fun x _=>⟨⟨rfl,rfl,rfl,rfl,trivial⟩,trivial,trivial,rfl,trivial,trivial⟩
theorem f65_has:Has prog 68 f68 (bodyOf f68):=⟨by kernel_rfl,by kernel_rfl,by kernel_rfl⟩
theorem known82:Known prog L82:=by
 unfold L82
 exact known81.lent mixed f65_has E81_eq oddIn_ok (fun _ _=>Nat.le_refl _) (fun _ _=>rfl)
theorem dropAt {α:Type} {l:List α} {i:Nat} {y:α} (h:l[i]?=some y):l.drop i=y::l.drop (i+1):=by
 have hl:=(List.getElem?_eq_some_iff.1 h).1
 rw [List.drop_eq_getElem_cons hl]
 rw [List.getElem?_eq_getElem hl] at h
 rw [Option.some.inj h]
def indexInVC:Prop:=∀ (x:List TIn),True→(x.length:Int)≤(9223372036854775807:Int)→(∃ x_1,(x_1≤x.length∧x.length≤(9223372036854775807:Nat)∧badIn x
 (0:Nat)=badIn (List.drop x_1 x) x_1)∧(x_1:Int)=(0:Int)∧True∧True)∧∀ (x_1:Nat),x_1≤x.length∧x.length≤(9223372036854775807 :
 Nat)∧badIn x (0:Nat)=badIn (List.drop x_1 x) x_1→(decide ((x_1:Int)<(x.length:Int))=true→(0:Int)≤(x_1:Int)∧(x_1:Int) <
 (x.length:Int)∧∀ (y:AA (76:Nat)),x[(x_1:Int).toNat]?=some y→(y.tx=y.tx∧y.n=y.n∧y.branch=y.branch∧y.secret=y.secret ∧
 True)∧True∧True∧((!inOk (TIn.mk y.tx y.n y.branch y.secret))=true→badIn x (0:Nat)=(x_1:Int)∧True∧True)∧((!inOk (TIn.mk y.tx y.n
 y.branch y.secret))=false→inI64 ((x_1:Int)+(1:Int))∧∃ y,(y≤x.length∧x.length≤(9223372036854775807:Nat)∧badIn x (0:Nat) =
 badIn (List.drop y x) y)∧x.length-y<x.length-x_1∧(y:Int)=(x_1:Int)+(1:Int)∧True∧True))∧(decide ((x_1:Int)<(↑x.length :
 Int))=false→badIn x (0:Nat)=(-1:Int)∧True∧True)
theorem indexIn_eq:indexInVC=fnS E82 f101 (bodyOf f101) indexInLS indexInAnn:=by kernel_rfl
theorem indexIn_vc:indexInVC:=by
 intro l _
 simp only [true_and,and_true,decide_eq_true_eq,decide_eq_false_iff_not,Int.toNat_natCast]
 refine fun hl=>⟨⟨0,⟨Nat.zero_le _,by omega,rfl⟩,rfl⟩,fun i hi=>⟨fun h=>?_,fun h=>?_⟩⟩
 ·have hi':i<l.length:=by omega
  refine ⟨by omega,h,fun y hy=>⟨fun h1=>?_,fun h1=>⟨by unfold inI64; omega,i+1,⟨hi',hi.2.1,?_⟩,by omega,by omega⟩⟩⟩
  ·rw [hi.2.2,dropAt (α:=TIn) (y:=y) hy]
   have h1':¬inOk y=true:=by
    have:inOk (TIn.mk y.tx y.n y.branch y.secret)=false:=by simpa using h1
    rw [show (y:TIn)=TIn.mk (TIn.tx y) (TIn.n y) (TIn.branch y) (TIn.secret y) from rfl,this]
    simp
   simp only [badIn,if_neg h1']
  ·rw [hi.2.2,dropAt (α:=TIn) (y:=y) hy]
   have h1'':inOk (TIn.mk y.tx y.n y.branch y.secret)=true:=by simpa using h1
   have h1':inOk y=true:=h1''
   simp only [badIn,if_pos h1']
 ·rw [hi.2.2,List.drop_of_length_le (by omega)]
  rfl
theorem indexIn_ok:Fits E82 f101 (bodyOf f101) indexInLS indexInAnn:=by
 constructor
 rw [← indexIn_eq]
 exact indexIn_vc
theorem f103_has:Has prog 101 f101 (bodyOf f101):=⟨by kernel_rfl,by kernel_rfl,by kernel_rfl⟩
theorem known83:Known prog L83:=by
 unfold L83
 exact known82.lent mixed f103_has E82_eq indexIn_ok (fun _ _=>Nat.le_refl _) (fun _ _=>rfl)
def anyInVC:Prop:=∀ (x:List TIn),True→(x=x∧Fn.func (68:FuncId)=Fn.func (68:FuncId)∧True∧True)∧True∧True∧decide (badIn x (0:Nat)≥(0:Int)) =
 decide (badIn x (0:Nat)≥(0:Int))∧True∧True
theorem anyIn_eq:anyInVC=fnS E83 f71 (bodyOf f71) anyInLS noAnn:=by kernel_rfl
theorem anyIn_ok:Fits E83 f71 (bodyOf f71) anyInLS noAnn:=by
 constructor
 rw [← anyIn_eq]
 exact fun x _=>⟨⟨rfl,rfl,trivial,trivial⟩,trivial,trivial,rfl,trivial,trivial⟩
theorem f68_has:Has prog 71 f71 (bodyOf f71):=⟨by kernel_rfl,by kernel_rfl,by kernel_rfl⟩
theorem known84:Known prog L84:=by
 unfold L84
 exact known83.lent mixed f68_has E83_eq anyIn_ok (fun _ _=>Nat.le_refl _) (fun _ _=>rfl)
def someVC:Prop:=∀ (x:Int),True→(decide (x≥(1:Int))=true→someB x=decide (x≤(64:Int))∧True∧True)∧(decide (x≥(1:Int))=false→someB x =
 false∧True∧True)
theorem some_eq:someVC=fnS E84 f70 (bodyOf f70) someLS noAnn:=by kernel_rfl
theorem some_ok:Fits E84 f70 (bodyOf f70) someLS noAnn:=by
 constructor
 rw [← some_eq]
 intro x _
 refine ⟨fun h=>⟨?_,trivial,trivial⟩,fun h=>⟨?_,trivial,trivial⟩⟩
 ·unfold someB; rw [h]; simp
 ·unfold someB; rw [h]; simp
theorem f67_has:Has prog 70 f70 (bodyOf f70):=⟨by kernel_rfl,by kernel_rfl,by kernel_rfl⟩
theorem known85:Known prog L85:=by
 unfold L85
 exact known84.lent mixed f67_has E84_eq some_ok (fun _ _=>Nat.le_refl _) (fun _ _=>rfl)
def ocheckVC:Prop:=∀ (x:TOut),True→(decide (x.amount<(10:Int))=true→(outE x=(27:Int)∧(27:Int)≠(0:Int))∧True∧True)∧(decide (x.amount<(10 :
 Int))=false→(decide (x.amount>(1125899906842624:Int))=true→(outE x=(5:Int)∧(5:Int)≠(0:Int))∧True∧True)∧(decide (x.amount
 > (1125899906842624:Int))=false→(x.cond=x.cond∧True)∧True∧True∧outE x=checkN x.cond∧True∧True))
theorem ocheck_eq:ocheckVC=fnS E85 f72 (bodyOf f72) ocheckLS noAnn:=by kernel_rfl
theorem ocheck_ok:Fits E85 f72 (bodyOf f72) ocheckLS noAnn:=by
 constructor
 rw [← ocheck_eq]
 intro x _
 simp only [true_and,and_true,decide_eq_true_eq,decide_eq_false_iff_not]
 refine ⟨fun h=>⟨?_,by decide⟩,fun h=>⟨fun h2=>⟨?_,by decide⟩,fun h2=>?_⟩⟩
 ·unfold outE; rw [if_pos h]
 ·unfold outE; rw [if_neg h,if_pos h2]
 ·unfold outE; rw [if_neg h,if_neg h2]
theorem f69_has:Has prog 72 f72 (bodyOf f72):=⟨by kernel_rfl,by kernel_rfl,by kernel_rfl⟩
theorem known86:Known prog L86:=by
 unfold L86
 exact known85.lent mixed f69_has E85_eq ocheck_ok (fun _ _=>Nat.le_refl _) (fun _ _=>rfl)
def totalVC:Prop:=∀ (x:TxD),True→(x.outs.length:Int)≤(9223372036854775807:Int)→(∃ (x_1:Nat×Int),TotI x.outs x_1.fst x_1.snd∧((x_1.fst:Int)=(0 :
 Int)∧x_1.snd=(0:Int))∧((x.lock=x.lock∧x.ins=x.ins∧x.outs=x.outs∧True)∧True)∧True)∧∀ (x_1:Nat×Int),TotI x.outs x_1.fst
 x_1.snd→(decide ((x_1.fst:Int)<(x.outs.length:Int))=true→(0:Int)≤(x_1.fst:Int)∧(x_1.fst:Int)<(x.outs.length:Int)∧∀ (y
 : AA (73:Nat)),x.outs[(x_1.fst:Int).toNat]?=some y→(decide (y.amount<(0:Int))=true→((totG x.outs (0:Int)).fst=(0:Int)∧(totG
 x.outs (0:Int)).snd=(5:Int)∧(5:Int)≠(0:Int))∧True∧True)∧(decide (y.amount<(0:Int))=false→inI64 ((1125899906842624:Int) -
 x_1.snd)∧(decide (y.amount>(1125899906842624:Int)-x_1.snd)=true→((totG x.outs (0:Int)).fst=(0:Int)∧(totG x.outs (0:Int)).snd=(5
 : Int)∧(5:Int)≠(0:Int))∧True∧True)∧(decide (y.amount>(1125899906842624:Int)-x_1.snd)=false→inI64 (x_1.snd+y.amount)∧inI64
 ((x_1.fst:Int)+(1:Int))∧∃ (y_1:Nat×Int),TotI x.outs y_1.fst y_1.snd∧x.outs.length-y_1.fst<x.outs.length-x_1.fst∧((↑y_1.fst :
 Int)=(x_1.fst:Int)+(1:Int)∧y_1.snd=x_1.snd+y.amount)∧((x.lock=x.lock∧x.ins=x.ins∧x.outs=x.outs∧True)∧True)∧True))) ∧
 (decide ((x_1.fst:Int)<(x.outs.length:Int))=false→((totG x.outs (0:Int)).fst=x_1.snd∧(totG x.outs (0:Int)).snd=(0:Int))∧True
 ∧ True)
theorem total_eq:totalVC=fnS E86 f48 (bodyOf f48) totalLS totalAnn:=by kernel_rfl
theorem total_vc:totalVC:=by
 rintro ⟨lock,ins,outs⟩ _
 simp only [true_and,and_true,decide_eq_true_eq,decide_eq_false_iff_not,Int.toNat_natCast,ne_eq]
 refine fun hl=>⟨⟨(0,0),⟨Nat.zero_le _,by omega,by simp,by simp,rfl⟩,rfl,rfl⟩,?_⟩
 rintro ⟨i,n⟩ ⟨h1,h2,h3,h4,h5⟩
 simp only at h1 h2 h3 h4 h5 ⊢
 refine ⟨fun h=>?_,fun h=>?_⟩
 ·refine ⟨by omega,h,fun y hy=>?_⟩
  have hd:=dropAt (α:=TOut) (y:=y) hy
  have five:(y.amount<0∨y.amount>1125899906842624-n)→totG outs 0=(0,5):=fun hc=>by
   rw [h5,hd]
   simp only [totG]
   rw [if_pos hc]
  refine ⟨fun hc=>?_,fun hc=>⟨by unfold inI64; omega,fun hc2=>?_,fun hc2=>⟨by unfold inI64; omega,by unfold inI64; omega,(i+1,n+y.amount),⟨?_,h2,?_,?_,?_⟩,?_,?_,?_⟩⟩⟩
  ·rw [five (.inl hc)]; exact ⟨rfl,rfl,by decide⟩
  ·rw [five (.inr hc2)]; exact ⟨rfl,rfl,by decide⟩
  ·simp only; omega
  ·simp only; omega
  ·simp only; omega
  ·rw [h5,hd]
   simp only [totG]
   rw [if_neg (by omega)]
  ·simp only; omega
  ·simp only; omega
  ·rfl
 ·rw [h5,List.drop_of_length_le (by omega)]
  exact ⟨rfl,rfl⟩
theorem total_ok:Fits E86 f48 (bodyOf f48) totalLS totalAnn:=by
 constructor
 rw [← total_eq]
 exact total_vc
theorem f31_has:Has prog 48 f48 (bodyOf f48):=⟨by kernel_rfl,by kernel_rfl,by kernel_rfl⟩
theorem known87:Known prog L87:=by
 unfold L87
 exact known86.lent mixed f31_has E86_eq total_ok (fun _ _=>Nat.le_refl _) (fun _ _=>rfl)
theorem mfind_some {K V:Type} {k:K}:∀ {es:List (K×V)} {j:Nat} {z:V},mfind k es=some (j,z)→es[j]?=some (k,z)
 | [],j,z,h=>by simp [mfind] at h
 | p::l,j,z,h=>by
  simp only [mfind] at h
  split at h
  ·rename_i e
   simp only [Option.some.injEq,Prod.mk.injEq] at h
   obtain ⟨rfl,rfl⟩:=h
   rw [← e]
   rfl
  ·split at h
   ·rename_i i v hv
    simp only [Option.some.injEq,Prod.mk.injEq] at h
    obtain ⟨rfl,rfl⟩:=h
    simpa using mfind_some hv
   ·cases h
theorem mfind_none {K V:Type} {k:K}:∀ {es:List (K×V)},mfind k es=none→k∉es.map (·.1)
 | [],_=>by simp
 | p::l,h=>by
  simp only [mfind] at h
  split at h
  ·cases h
  ·rename_i e
   split at h
   ·cases h
   ·rename_i hv
    simp only [List.map_cons,List.mem_cons,not_or]
    exact ⟨fun e'=>e e'.symm,mfind_none hv⟩
theorem mfind_new {K V:Type} {k:K} {v:V}:∀ {es:List (K×V)},mfind k es=none→mfind k (es++[(k,v)])=some (es.length,v)
 | [],_=>by simp [mfind]
 | p::l,h=>by
  simp only [mfind] at h
  split at h
  ·cases h
  ·rename_i e
   split at h
   ·cases h
   ·rename_i hv
    simp only [List.cons_append,mfind,if_neg e,mfind_new hv,List.length_cons]
theorem mapSet_fst {K V:Type} (es:List (K×V)) (j:Nat) (v:V):(mapSet es j v).map (·.1)=es.map (·.1):=by
 unfold mapSet
 apply List.ext_getElem?
 intro i
 rw [List.getElem?_map,List.getElem?_map,List.getElem?_modify]
 cases es[i]? with
 | none=>rfl
 | some p=>
  simp only [Option.map_some]
  split<;>rfl
theorem mapSet_len {K V:Type} (es:List (K×V)) (j:Nat) (v:V):(mapSet es j v).length=es.length:=by
 simp [mapSet]
theorem mapSet_mem {K V:Type} {es:List (K×V)} {j:Nat} {v:V} {p:K×V} (h:p∈mapSet es j v):p∈es∨p.2=v:=by
 obtain ⟨i,hi⟩:=List.getElem?_of_mem h
 unfold mapSet at hi
 rw [List.getElem?_modify] at hi
 cases hq:es[i]? with
 | none=>rw [hq] at hi; cases hi
 | some q=>
  rw [hq] at hi
  by_cases e:j=i
  ·right
   simp [e] at hi
   rw [← hi]
  ·left
   simp [e] at hi
   rw [← hi]; exact List.mem_of_getElem? hq
theorem take_pts {l:List TIn} {k:Nat} {y:TIn} (h:l[k]?=some y):(l.take (k+1)).map ptOf=(l.take k).map ptOf++[ptOf y]:=by
 rw [List.take_add_one,h]
 simp
theorem MapI.old {l:List TIn} {k:Nat} {es:List (Pt×Int)} {st:List Int} (h:MapI l k es st) {y:TIn} (hy:l[k]?=some y) {j:Nat} {z:Int} (hf:mfind (ptOf y) es=some (j,z)) {i:Nat}:MapI l (k+1) (mapSet es i (z+1)) st:=by
 have hm:=mfind_some hf
 have hk:=(List.getElem?_eq_some_iff.1 hy).1
 have hz:=h.val _ (List.mem_of_getElem? hm)
 have hin:ptOf y∈es.map (·.1):=List.mem_map.2 ⟨_,List.mem_of_getElem? hm,rfl⟩
 refine ⟨hk,by rw [mapSet_len]; exact h.len,by rw [mapSet_fst]; exact h.dis,fun p=>?_,fun p hp=>?_,by rw [mapSet_len]; have:=h.cnt; omega⟩
 ·rw [mapSet_fst,take_pts hy,List.mem_append,List.mem_singleton,h.mem]
  refine ⟨.inl,fun hp=>hp.elim id (fun e=>?_)⟩
  rw [e,← h.mem]
  exact hin
 ·rcases mapSet_mem hp with h1 | h1
  ·have:=h.val p h1; omega
  ·rw [h1]
   omega
theorem MapI.new {l:List TIn} {k:Nat} {es:List (Pt×Int)} {st:List Int} (h:MapI l k es st) {y:TIn} (hy:l[k]?=some y) (hf:mfind (ptOf y) es=none) {i:Nat} {b:Int}:MapI l (k+1) (mapSet (es++[(ptOf y,(0:Int))]) i 1) (st++[b]):=by
 have hm:=mfind_none hf
 have hk:=(List.getElem?_eq_some_iff.1 hy).1
 refine ⟨hk,by rw [mapSet_len]; simp [h.len],?_,fun p=>?_,fun p hp=>?_,by rw [mapSet_len]; have:=h.cnt; simp; omega⟩
 ·rw [mapSet_fst,List.map_append,List.nodup_append]
  refine ⟨h.dis,by simp,fun x hx z hz e=>?_⟩
  simp only [List.map_cons,List.map_nil,List.mem_singleton] at hz
  rw [e,hz] at hx
  exact hm hx
 ·rw [mapSet_fst,take_pts hy,List.map_append,List.mem_append,List.mem_append,h.mem]
  rfl
 ·rcases mapSet_mem hp with h1 | h1
  ·rcases List.mem_append.1 h1 with h2 | h2
   ·have:=h.val p h2; omega
   ·simp only [List.mem_singleton] at h2
    rw [h2]
    simp only
    omega
  ·rw [h1]; omega
theorem sub_len {α:Type}:∀ {a b:List α},a.Nodup→(∀ x,x∈a→x∈b)→a.length≤b.length
 | [],_,_,_=>by simp
 | x::a,b,hn,h=>by
  obtain ⟨s,t,rfl⟩:=List.append_of_mem (h x List.mem_cons_self)
  obtain ⟨h1,h2⟩:=List.nodup_cons.1 hn
  have:=sub_len (b:=s++t) h2 (fun y hy=>by
   have h3:=h y (List.mem_cons_of_mem _ hy)
   have hne:y≠x:=fun e=>h1 (e▸hy)
   simp only [List.mem_append,List.mem_cons] at h3 ⊢
   rcases h3 with h3 | h3 | h3
   ·exact .inl h3
   ·exact absurd h3 hne
   ·exact .inr h3)
  simp only [List.length_append,List.length_cons] at this ⊢
  omega
theorem nodup_of_len {α:Type}:∀ {a b:List α},a.Nodup→(∀ x,x∈a→x∈b)→b.length≤a.length→b.Nodup
 | [],b,_,_,hl=>by
  have:b=[]:=List.eq_nil_of_length_eq_zero (by simpa using hl)
  rw [this]
  exact List.nodup_nil
 | x::a,b,hn,h,hl=>by
  obtain ⟨s,t,rfl⟩:=List.append_of_mem (h x List.mem_cons_self)
  obtain ⟨h1,h2⟩:=List.nodup_cons.1 hn
  have hsub:∀ y,y∈a→y∈s++t:=fun y hy=>by
   have h3:=h y (List.mem_cons_of_mem _ hy)
   have hne:y≠x:=fun e=>h1 (e▸hy)
   simp only [List.mem_append,List.mem_cons] at h3 ⊢
   rcases h3 with h3 | h3 | h3
   ·exact .inl h3
   ·exact absurd h3 hne
   ·exact .inr h3
  simp only [List.length_append,List.length_cons] at hl
  have h4:=nodup_of_len h2 hsub (by simp only [List.length_append]; omega)
  refine List.perm_middle.nodup_iff.2 (List.nodup_cons.2 ⟨fun hx=>?_,h4⟩)
  have h5:=sub_len hn (b:=s++t) (fun y hy=>by
   rcases List.mem_cons.1 hy with e | e
   ·rw [e]; exact hx
   ·exact hsub y e)
  simp only [List.length_append,List.length_cons] at h5
  omega
/-- As many in the map as there are inputs: no point is twice. -/
theorem MapI.end_ {l:List TIn} {es:List (Pt×Int)} {st:List Int} (h:MapI l l.length es st):es.length=l.length↔(l.map ptOf).Nodup:=by
 have hm:=h.mem
 rw [List.take_length] at hm
 have e1:(es.map (·.1)).length=es.length:=List.length_map _
 have e2:(l.map ptOf).length=l.length:=List.length_map _
 constructor
 ·intro hl
  exact nodup_of_len h.dis (fun p hp=>(hm p).1 hp) (by omega)
 ·intro hn
  have h1:=sub_len h.dis (fun p hp=>(hm p).1 hp)
  have h2:=sub_len hn (fun p hp=>(hm p).2 hp)
  omega
def tcheckVC:Prop:=∀ (x:TxD),True→(decide (x.lock<(0:Int))=true→(checkT x=(4:Int)∧(4:Int)≠(0:Int))∧True∧True)∧(decide (x.lock<(0:Int))
 = false→(decide (x.lock>(1099511627776:Int))=true→(checkT x=(4:Int)∧(4:Int)≠(0:Int))∧True∧True)∧(decide (x.lock >
 (1099511627776:Int))=false→(x.ins.length:Int)≤(9223372036854775807:Int)→(x.ins.length:Int)=(x.ins.length:Int)∧True∧True ∧
 ((!someB (x.ins.length:Int))=true→(checkT x=(4:Int)∧(4:Int)≠(0:Int))∧True∧True)∧((!someB (x.ins.length:Int))=false →
 (x.outs.length:Int)≤(9223372036854775807:Int)→(x.outs.length:Int)=(x.outs.length:Int)∧True∧True∧((!someB (x.outs.length:Int))
 = true→(checkT x=(4:Int)∧(4:Int)≠(0:Int))∧True∧True)∧((!someB (x.outs.length:Int))=false→(x.ins=x.ins∧Fn.func (68:FuncId)=Fn.func (68:Nat)∧True∧True)∧True∧True∧(decide (badIn x.ins (0:Nat)≥(0:Int))=true→(checkT x=(4:Int)∧(4:Int)≠(0
 : Int))∧True∧True)∧(decide (badIn x.ins (0:Nat)≥(0:Int))=false→(x.ins.length:Int)≤(9223372036854775807:Int)→(∃ (x_1:MapX),
 MapI x.ins x_1.k x_1.es x_1.st∧(x_1.k:Int)=(0:Int)∧((x.lock=x.lock∧x.ins=x.ins∧x.outs=x.outs∧True)∧(x_1.es=[]∧x_1.st=[])
 ∧ True)∧True)∧∀ (x_1:MapX),MapI x.ins x_1.k x_1.es x_1.st→(decide ((x_1.k:Int)<(x.ins.length:Int))=true→(0:Int)≤(x_1.k:Int)
 ∧ (x_1.k:Int)<(x.ins.length:Int)∧∀ (y:AA (76:Nat)),x.ins[(x_1.k:Int).toNat]?=some y→((y.tx=y.tx∧y.n=y.n∧True)∧(∀ (j :
 Nat) (z:Int),mfind (Pt.mk y.tx y.n) x_1.es=some (j,z)→inI64 (z+(1:Int))∧(y.tx=y.tx∧y.n=y.n∧True)∧(∀ (j:Nat) (z_1:Int),
 mfind (Pt.mk y.tx y.n) x_1.es=some (j,z_1)→∀ (b:Int),x_1.st[j]?=some b→(z+(1:Int)=z+(1:Int)∧True)∧∃ j,x_1.st[j]?=some b ∧
 inI64 ((x_1.k:Int)+(1:Int))∧∃ (y:MapX),MapI x.ins y.k y.es y.st∧x.ins.length-y.k<x.ins.length-x_1.k∧(y.k:Int)=(x_1.k:Int)
 + (1:Int)∧((x.lock=x.lock∧x.ins=x.ins∧x.outs=x.outs∧True)∧(y.es=mapSet x_1.es j (z+(1:Int))∧y.st=x_1.st)∧True)∧True) ∧
 (mfind (Pt.mk y.tx y.n) x_1.es=none→∀ (b:Int),¬b∈x_1.st→x_1.es.length=x_1.st.length→((0:Int)=(0:Int)∧True)∧(z+(1:Int)=z
 + (1:Int)∧True)∧∃ j,(x_1.st++[b])[j]?=some b∧inI64 ((x_1.k:Int)+(1:Int))∧∃ (y_1:MapX),MapI x.ins y_1.k y_1.es y_1.st ∧
 x.ins.length-y_1.k<x.ins.length-x_1.k∧(y_1.k:Int)=(x_1.k:Int)+(1:Int)∧((x.lock=x.lock∧x.ins=x.ins∧x.outs=x.outs∧True)
 ∧ (y_1.es=mapSet (x_1.es++[(Pt.mk y.tx y.n,(0:Int))]) j (z+(1:Int))∧y_1.st=x_1.st++[b])∧True)∧True))∧(mfind (Pt.mk y.tx y.n)
 x_1.es=none→(y.tx=y.tx∧y.n=y.n∧True)∧(∀ (j:Nat) (z:Int),mfind (Pt.mk y.tx y.n) x_1.es=some (j,z)→∀ (b:Int),x_1.st[j]?=some
 b→(wr IntKind.i64 ((0:Int)+(1:Int))=wr IntKind.i64 ((0:Int)+(1:Int))∧True)∧∃ j,x_1.st[j]?=some b∧inI64 ((x_1.k:Int)+(1 :
 Int))∧∃ (y:MapX),MapI x.ins y.k y.es y.st∧x.ins.length-y.k<x.ins.length-x_1.k∧(y.k:Int)=(x_1.k:Int)+(1:Int)∧((x.lock =
 x.lock∧x.ins=x.ins∧x.outs=x.outs∧True)∧(y.es=mapSet x_1.es j (wr IntKind.i64 ((0:Int)+(1:Int)))∧y.st=x_1.st)∧True)∧True) ∧
 (mfind (Pt.mk y.tx y.n) x_1.es=none→∀ (b:Int),¬b∈x_1.st→x_1.es.length=x_1.st.length→((0:Int)=(0:Int)∧True)∧(wr IntKind.i64 ((0
 : Int)+(1:Int))=wr IntKind.i64 ((0:Int)+(1:Int))∧True)∧∃ j,(x_1.st++[b])[j]?=some b∧inI64 ((x_1.k:Int)+(1:Int))∧∃ (y_1
 : MapX),MapI x.ins y_1.k y_1.es y_1.st∧x.ins.length-y_1.k<x.ins.length-x_1.k∧(y_1.k:Int)=(x_1.k:Int)+(1:Int)∧((x.lock=x.lock
 ∧ x.ins=x.ins∧x.outs=x.outs∧True)∧(y_1.es=mapSet (x_1.es++[(Pt.mk y.tx y.n,(0:Int))]) j (wr IntKind.i64 ((0:Int)+(1:Int))) ∧
 y_1.st=x_1.st++[b])∧True)∧True)))∧(y.tx=y.tx∧y.n=y.n∧True)∧(∀ (j:Nat) (z:Int),mfind (Pt.mk y.tx y.n) x_1.es=some (j,z)→∀
 (b:Int),x_1.st[j]?=some b→(y.tx=y.tx∧y.n=y.n∧True)∧(∀ (j:Nat) (z:Int),mfind (Pt.mk y.tx y.n) x_1.es=some (j,z)→inI64 (z+(1
 : Int))∧(z+(1:Int)=z+(1:Int)∧True)∧∃ j,x_1.st[j]?=some b∧inI64 ((x_1.k:Int)+(1:Int))∧∃ (y:MapX),MapI x.ins y.k y.es
 y.st∧x.ins.length-y.k<x.ins.length-x_1.k∧(y.k:Int)=(x_1.k:Int)+(1:Int)∧((x.lock=x.lock∧x.ins=x.ins∧x.outs=x.outs ∧
 True)∧(y.es=mapSet x_1.es j (z+(1:Int))∧y.st=x_1.st)∧True)∧True)∧(mfind (Pt.mk y.tx y.n) x_1.es=none→(wr IntKind.i64 ((0:Int) +
 (1:Int))=wr IntKind.i64 ((0:Int)+(1:Int))∧True)∧∃ j,x_1.st[j]?=some b∧inI64 ((x_1.k:Int)+(1:Int))∧∃ (y:MapX),MapI x.ins
 y.k y.es y.st∧x.ins.length-y.k<x.ins.length-x_1.k∧(y.k:Int)=(x_1.k:Int)+(1:Int)∧((x.lock=x.lock∧x.ins=x.ins∧x.outs =
 x.outs∧True)∧(y.es=mapSet x_1.es j (wr IntKind.i64 ((0:Int)+(1:Int)))∧y.st=x_1.st)∧True)∧True))∧(mfind (Pt.mk y.tx y.n) x_1.es =
 none→∀ (b:Int),¬b∈x_1.st→x_1.es.length=x_1.st.length→((0:Int)=(0:Int)∧True)∧(y.tx=y.tx∧y.n=y.n∧True)∧(∀ (j:Nat) (z :
 Int),mfind (Pt.mk y.tx y.n) (x_1.es++[(Pt.mk y.tx y.n,(0:Int))])=some (j,z)→inI64 (z+(1:Int))∧(z+(1:Int)=z+(1:Int)∧True) ∧
 ∃ j,(x_1.st++[b])[j]?=some b∧inI64 ((x_1.k:Int)+(1:Int))∧∃ (y_1:MapX),MapI x.ins y_1.k y_1.es y_1.st∧x.ins.length-y_1.k <
 x.ins.length-x_1.k∧(y_1.k:Int)=(x_1.k:Int)+(1:Int)∧((x.lock=x.lock∧x.ins=x.ins∧x.outs=x.outs∧True)∧(y_1.es=mapSet
 (x_1.es++[(Pt.mk y.tx y.n,(0:Int))]) j (z+(1:Int))∧y_1.st=x_1.st++[b])∧True)∧True)∧(mfind (Pt.mk y.tx y.n) (x_1.es++[(Pt.mk y.tx
 y.n,(0:Int))])=none→(wr IntKind.i64 ((0:Int)+(1:Int))=wr IntKind.i64 ((0:Int)+(1:Int))∧True)∧∃ j,(x_1.st++[b])[j]?=some b
 ∧ inI64 ((x_1.k:Int)+(1:Int))∧∃ (y_1:MapX),MapI x.ins y_1.k y_1.es y_1.st∧x.ins.length-y_1.k<x.ins.length-x_1.k∧(y_1.k:Int) =
 (x_1.k:Int)+(1:Int)∧((x.lock=x.lock∧x.ins=x.ins∧x.outs=x.outs∧True)∧(y_1.es=mapSet (x_1.es++[(Pt.mk y.tx y.n,(0:Int))]) j
 (wr IntKind.i64 ((0:Int)+(1:Int)))∧y_1.st=x_1.st++[b])∧True)∧True)))∧(decide ((x_1.k:Int)<(x.ins.length:Int))=false →
 (x.ins.length:Int)≤(9223372036854775807:Int)→(((x_1.es.length:Int) != (x.ins.length:Int))=true→(checkT x=(9:Int)∧(9:Int) ≠
 (0:Int))∧True∧True)∧(((x_1.es.length:Int) != (x.ins.length:Int))=false→(x.outs.length:Int)≤(9223372036854775807:Int)→(∃ x_2,
 (x_2≤x.outs.length∧outsE x.outs=outsE (List.drop x_2 x.outs))∧(x_2:Int)=(0:Int)∧((x.lock=x.lock∧x.ins=x.ins∧x.outs=x.outs ∧
 True)∧(x_1.es=x_1.es∧x_1.st=x_1.st)∧True)∧True)∧∀ (x_2:Nat),x_2≤x.outs.length∧outsE x.outs=outsE (List.drop x_2 x.outs) →
 (decide ((x_2:Int)<(x.outs.length:Int))=true→(0:Int)≤(x_2:Int)∧(x_2:Int)<(x.outs.length:Int)∧∀ (y:AA (73:Nat)),
 x.outs[(x_2:Int).toNat]?=some y→(y.amount=y.amount∧y.cond=y.cond∧True)∧True∧True∧((!outE (TOut.mk y.amount y.cond)==(0:Int)) =
 true→checkT x=outE (TOut.mk y.amount y.cond)∧True∧True)∧((!outE (TOut.mk y.amount y.cond)==(0:Int))=false→inI64 ((x_2:Int)+(1 :
 Int))∧∃ y,(y≤x.outs.length∧outsE x.outs=outsE (List.drop y x.outs))∧x.outs.length-y<x.outs.length-x_2∧(y:Int)=(x_2:Int)+(1
 : Int)∧((x.lock=x.lock∧x.ins=x.ins∧x.outs=x.outs∧True)∧(x_1.es=x_1.es∧x_1.st=x_1.st)∧True)∧True))∧(decide ((x_2:Int) <
 (x.outs.length:Int))=false→(x.lock=x.lock∧x.ins=x.ins∧x.outs=x.outs∧True)∧True∧True∧checkT x=(totG x.outs (0:Int)).snd ∧
 True∧True))))))))
theorem tcheck_eq:tcheckVC=fnS E87 f38 (bodyOf f38) tcheckLS tcheckAnn:=by kernel_rfl
theorem tcheck_vc:tcheckVC:=by
 rintro ⟨lock,ins,outs⟩ _
 have e1:wr .i64 ((0:Int)+1)=1:=by decide
 have c4:(lock<0∨lock>1099511627776∨someB (ins.length:Int)=false∨someB (outs.length:Int)=false∨badIn ins 0≥0)→checkT (TxD.mk lock ins outs)=4∧(4:Int)≠0:=fun h=>⟨by unfold checkT; rw [if_pos h],by decide⟩
 simp only [true_and,and_true,decide_eq_true_eq,decide_eq_false_iff_not,Int.toNat_natCast,Bool.not_eq_true',Bool.not_eq_false',beq_iff_eq,beq_eq_false_iff_ne,bne_iff_ne,bne_eq_false_iff_eq,e1]
 refine ⟨fun h1=>c4 (.inl h1),fun h1=>⟨fun h2=>c4 (.inr (.inl h2)),fun h2 _=>⟨fun h3=>c4 (.inr (.inr (.inl h3))),fun h3 _=>⟨fun h4=>c4 (.inr (.inr (.inr (.inl h4)))),fun h4=>⟨fun h5=>c4 (.inr (.inr (.inr (.inr h5)))),fun h5 _=>⟨⟨⟨0,[],[]⟩,⟨Nat.zero_le _,rfl,by simp,by simp,by simp,by simp⟩,rfl,rfl,rfl⟩,?_⟩⟩⟩⟩⟩⟩
 have hle:ins.length≤64:=by
  unfold someB at h3
  simp only [Bool.and_eq_true,decide_eq_true_eq] at h3
  omega
 have hno:¬(lock<0∨lock>1099511627776∨someB (ins.length:Int)=false∨someB (outs.length:Int)=false∨badIn ins 0≥0):=by
  rw [h3,h4]
  simp only [Bool.true_eq_false,false_or]
  omega
 rintro ⟨k,es,st⟩ hm
 simp only at hm ⊢
 refine ⟨fun h6=>?_,fun h6 _=>?_⟩
 ·have hk':k<ins.length:=by omega
  refine ⟨by omega,h6,fun y hy=>?_⟩
  have kk:inI64 ((k:Int)+1):=by unfold inI64; omega
  have hpt:Pt.mk y.tx y.n=ptOf y:=rfl
  rw [hpt]
  have zz:∀ {j:Nat} {z:Int},mfind (ptOf y) es=some (j,z)→inI64 (z+1):=fun {j z} hf=>by
   have:=hm.val _ (List.mem_of_getElem? (mfind_some hf))
   simp only at this
   unfold inI64
   omega
  have old:∀ {j:Nat} {z:Int} (i:Nat),mfind (ptOf y) es=some (j,z)→∃ x:MapX,MapI ins x.k x.es x.st∧ins.length-x.k<ins.length-k∧(x.k:Int)=(k:Int)+1∧x.es=mapSet es i (z+1)∧x.st=st:=fun {j z} i hf=>
   ⟨⟨k+1,mapSet es i (z+1),st⟩,hm.old hy hf,by simp only; omega,by simp only; omega,rfl,rfl⟩
  have new:∀ (i:Nat) (b:Int),mfind (ptOf y) es=none→∃ x:MapX,MapI ins x.k x.es x.st∧ins.length-x.k<ins.length-k∧(x.k:Int)=(k:Int)+1∧x.es=mapSet (es++[(ptOf y,0)]) i 1∧x.st=st++[b]:=fun i b hn=>
   ⟨⟨k+1,mapSet (es++[(ptOf y,0)]) i 1,st++[b]⟩,hm.new hy hn,by simp only; omega,by simp only; omega,rfl,rfl⟩
  have app:∀ b:Int,(st++[b])[st.length]?=some b:=fun b=>by simp
  refine ⟨⟨fun j z hf=>⟨zz hf,fun j2 z2 _ b hb=>⟨j2,hb,kk,old _ hf⟩,fun hn=>?_⟩,fun hn=>⟨fun j2 z2 hf _ _=>?_,fun _ b _ _=>⟨st.length,app b,kk,new _ _ hn⟩⟩⟩,
   ⟨fun j z hf b hb=>⟨fun j2 z2 hf2=>⟨zz hf2,j,hb,kk,old _ hf2⟩,fun hn=>?_⟩,fun hn b _ _=>⟨fun j2 z2 hf2=>?_,fun hn2=>?_⟩⟩⟩
  ·rw [hf] at hn; cases hn
  ·rw [hn] at hf; cases hf
  ·rw [hf] at hn; cases hn
  ·rw [mfind_new hn] at hf2
   cases hf2
   exact ⟨by unfold inI64; omega,st.length,app b,kk,new _ _ hn⟩
  ·rw [mfind_new hn] at hn2
   cases hn2
 ·have hkl:k=ins.length:=by have:=hm.le; omega
  subst hkl
  have hend:=hm.end_
  refine ⟨fun h7=>⟨?_,by decide⟩,fun h7 _=>?_⟩
  ·unfold checkT
   rw [if_neg hno,if_pos (fun hn=>h7 (by have:=hend.2 hn; omega))]
  have hnd:(ins.map ptOf).Nodup:=hend.1 (by omega)
  have hck:checkT (TxD.mk lock ins outs)=if outsE outs≠0 then outsE outs else (totG outs 0).2:=by
   unfold checkT
   rw [if_neg hno,if_neg (fun h=>h hnd)]
  refine ⟨⟨0,⟨Nat.zero_le _,rfl⟩,rfl⟩,fun i hi=>⟨fun h8=>?_,fun h8=>?_⟩⟩
  ·have hi':i<outs.length:=by omega
   refine ⟨by omega,h8,fun y hy=>?_⟩
   have hd:=dropAt (α:=TOut) (y:=y) hy
   have hy':outE (TOut.mk y.amount y.cond)=outE y:=rfl
   rw [hy']
   refine ⟨fun h9=>?_,fun h9=>⟨by unfold inI64; omega,i+1,⟨hi',?_⟩,by omega,by omega⟩⟩
   ·have he:outsE outs=outE y:=by
     rw [hi.2,hd]
     simp only [outsE]
     rw [if_neg h9]
    rw [hck,he,if_pos h9]
   ·rw [hi.2,hd]
    simp only [outsE]
    rw [if_pos h9]
  ·have he:outsE outs=0:=by
    rw [hi.2,List.drop_of_length_le (by omega)]
    rfl
   rw [hck,he,if_neg (fun h=>h rfl)]
theorem tcheck_ok:Fits E87 f38 (bodyOf f38) tcheckLS tcheckAnn:=by
 constructor
 rw [← tcheck_eq]
 exact tcheck_vc
theorem f35_has:Has prog 38 f38 (bodyOf f38):=⟨by kernel_rfl,by kernel_rfl,by kernel_rfl⟩
theorem known88:Known prog L88:=by
 unfold L88
 exact known87.lent mixed f35_has E87_eq tcheck_ok (fun _ _=>Nat.le_refl _) (fun _ _=>rfl)
end Go.Proofs.YthkffadomgcdaaaGreatDoor

/-! A transaction's bytes, its sum; the totals' law: what is said of them. Conditions: none. -/
namespace Go.Proofs.YthkffadomgcdaaaGreatDoor
open Go Go.Eng Go.Proofs.Tryz
/-- Bytes, so told that their end is seen. -/
def stuffB:List Int→List Int
 | []=>[]
 | c::l=>if c=0 then 0::255::stuffB l else c::stuffB l
def bytesB (xs:List Int):List Int:=stuffB xs++[0,0]
structure BB where
 xs:List Int
 b:List Int
structure BB.Ok (x:BB):Prop where
 len:x.xs.length≤1000000000000
 b:x.b.length≤1000000000
def wBytesLS:LS AA where
 X:=BB
 pre:=BB.Ok
 args:=fun x=>[.ptr 0 0,.rints .u8 x.b]
 hin:=fun x=>[wcell 1,.ivec 5 .u8 x.xs]
 res:=fun _=>[.ptr 0 0]
 hout:=fun x=>[wcell 2,.dead,.ivec 5 .u8 (x.xs++bytesB x.b)]
def wBytesGet (args:List (SV AA)) (sh:List (SO AA)):Option BB:=match args with
 | [w,s]=>match lineOf sh w,gI .u8 sh s with
  | some xs,some b=>some ⟨xs,b⟩
  | _,_=>none
 | _=>none
def wBytesAnn (x:BB):Anns AA:=fun _ _ _=>some {
 X:=Nat
 inv:=fun n=>n≤x.b.length
 meas:=fun n=>x.b.length-n
 slots:=fun n=>[(11,.int .i64 n)]
 heap:=fun _=>[(0,wcell 2),(1,.dead)]
 more:=fun n=>[.ivec 5 .u8 (x.xs++stuffB (x.b.take n))] }
noncomputable def L89:List (Nat×SpecT AA):=(85,tLent wBytesLS wBytesGet)::L88
noncomputable def E89:Eng AA:=EE prog L89
theorem E89_eq:E89=EE prog L89:=by
 unfold E89
 rfl
def inB (sec:TIn→List Int) (x:TIn):List Int:=x.tx++uintB (wr .u64 x.n)++uintB (wr .u64 x.branch)++bytesB (sec x)
def insB (sec:TIn→List Int):List TIn→List Int
 | []=>[]
 | x::l=>inB sec x++insB sec l
def toutB (o:TOut):List Int:=uintB (wr .u64 o.amount)++putB o.cond
def toutsB:List TOut→List Int
 | []=>[]
 | o::l=>toutB o++toutsB l
def putTx (sec:TIn→List Int) (t:TxD):List Int:=uintB (wr .u64 t.lock)++uintB (wr .u64 (t.ins.length:Int))++insB sec t.ins++uintB (wr .u64 (t.outs.length:Int))++toutsB t.outs
def sumW:List TOut→Nat
 | []=>0
 | o::l=>weight o.cond+sumW l
def Byt (l:List Int):Prop:=∀ y,y∈l→0≤y∧y<256
structure TxOk (t:TxD):Prop where
 n:t.ins.length≤2000000
 m:t.outs.length≤2000000
 w:sumW t.outs≤2000000
 tx:∀ x,x∈t.ins→x.tx.length=32∧Byt x.tx
 locks:∀ o,o∈t.outs→Locks o.cond∧∀ b,b∈o.cond→Byt b.lock
/-- A closure that put is handed: what it tells of an input. -/
def secOf (g:Nat):TIn→List Int:=cond (Nat.beq g 46) (fun _=>[]) (fun x=>x.secret)
/-- What a closure hands back: nothing. -/
def id1LS:LS AA where
 X:=TIn
 pre:=fun _=>True
 args:=fun x=>[.agg (tinSL x)]
 hin:=fun _=>[]
 res:=fun _=>[.val (.slice none 0 0)]
 hout:=fun _=>[]
noncomputable def L90:List (Nat×SpecT AA):=(46,tLent id1LS tinGet)::L89
noncomputable def E90:Eng AA:=EE prog L90
theorem E90_eq:E90=EE prog L90:=by
 unfold E90
 rfl
def tputAnn:Anns AA:=fun k ts sh=>if k=4 then (match writerAt ts sh 5,nth ts 1,nth ts 22 with
  | some (i,j,xs),some (.fn (.func g) _ _),some (.rseq u l0)=>match castL 76 l0 with
   | some l=>some {
    X:=Nat
    inv:=fun n=>n≤l.length
    meas:=fun n=>l.length-n
    slots:=fun n=>[(24,.int .i64 n)]
    heap:=fun _=>[(i,wcell (cnt sh)),(j,.dead)]
    more:=fun n=>[.ivec 5 .u8 (xs++insB (secOf g) (l.take n))] }
   | none=>none
  | _,_,_=>none)
 else (match nth ts 8,nth ts 55 with
  | some (.vec j),some (.rseq u l0)=>match nth sh j,castL 73 l0 with
   | some (.ivec _ _ xs),some l=>some {
    X:=Nat
    inv:=fun n=>n≤l.length
    meas:=fun n=>l.length-n
    slots:=fun n=>[(57,.int .i64 n),(8,.vec (cnt sh))]
    heap:=fun _=>[(j,.dead)]
    more:=fun n=>[.ivec 5 .u8 (xs++toutsB (l.take n))] }
   | _,_=>none
  | _,_=>none)
noncomputable def L91:List (Nat×SpecT AA):=(45,tInline E90 f45 (bodyOf f45) tputAnn)::L90
noncomputable def E91:Eng AA:=EE prog L91
theorem E91_eq:E91=EE prog L91:=by
 unfold E91
 rfl
noncomputable def idB (t:TxD):List Int:=sumB orderL (putTx (fun _=>[]) t)
noncomputable def idLS:LS AA where
 X:=TxD
 pre:=TxOk
 args:=fun t=>[.agg (txSL t)]
 hin:=fun _=>[]
 res:=fun t=>[hashV (idB t)]
 hout:=fun _=>[]
noncomputable def L92:List (Nat×SpecT AA):=(22,tLent idLS txGet)::L91
noncomputable def E92:Eng AA:=EE prog L92
theorem E92_eq:E92=EE prog L92:=by
 unfold E92
 rfl
structure AtX where
 t:TxD
 n:Int
noncomputable def atLS:LS AA where
 X:=AtX
 pre:=fun x=>TxOk x.t
 args:=fun x=>[.agg (txSL x.t),.int .i64 x.n]
 hin:=fun _=>[]
 res:=fun x=>[.agg (.run .u8 32 (idB x.t) (.cell (.int .i64 x.n) .nil))]
 hout:=fun _=>[]
def atGet (args:List (SV AA)) (sh:List (SO AA)):Option AtX:=match args with
 | [t,n]=>match decTx sh t,asI n with
  | some t,some n=>some ⟨t,n⟩
  | _,_=>none
 | _=>none
noncomputable def L93:List (Nat×SpecT AA):=(49,tLent atLS atGet)::L92
end Go.Proofs.YthkffadomgcdaaaGreatDoor

/-! A transaction's bytes, its sum; the totals' law: plain laws; the walks hold. Conditions: none. -/
namespace Go.Proofs.YthkffadomgcdaaaGreatDoor
open Go Go.Eng Go.Proofs.Tryz
theorem stuffB_le:∀ l:List Int,(stuffB l).length≤2*l.length
 | []=>by simp [stuffB]
 | c::l=>by
  have:=stuffB_le l
  simp only [stuffB]
  split<;>simp only [List.length_cons]<;>omega
theorem stuffB_app:∀ a b:List Int,stuffB (a++b)=stuffB a++stuffB b
 | [],b=>rfl
 | c::a,b=>by
  simp only [List.cons_append,stuffB]
  split<;>simp [stuffB_app a b]
theorem stuffB_take_le (l:List Int) (i:Nat):(stuffB (l.take i)).length≤2*l.length:=by
 have h1:=stuffB_le (l.take i)
 have h2:(l.take i).length≤l.length:=by rw [List.length_take]; omega
 omega
def wBytesVC:Prop:=∀ (x:BB),x.Ok→(x.b.length:Int)≤(9223372036854775807:Int)→(∃ x_1,Nat.le x_1 x.b.length∧(x_1:Int)=(0:Int)∧((True∧True) ∧
 True)∧x.xs++stuffB (List.take x_1 x.b)=x.xs∧True)∧∀ (x_1:Nat),x_1.le x.b.length→(decide ((x_1:Int)<(x.b.length:Int))=true→(0
 : Int)≤(x_1:Int)∧(x_1:Int)<(x.b.length:Int)∧(x_1:Int).toNat<x.b.length∧((x.xs++stuffB (List.take x_1 x.b)).length+[x.b.getD
 (x_1:Int).toNat (0:Int)].length)*(1:Nat)≤(140737488355328:Nat)∧(x.xs++stuffB (List.take x_1 x.b)).length+[x.b.getD (↑x_1 :
 Int).toNat (0:Int)].length≤(1152921504606846976:Nat)∧((x.b.getD (x_1:Int).toNat (0:Int)==(0:Int))=true→((x.xs++stuffB (List.take
 x_1 x.b)++[x.b.getD (x_1:Int).toNat (0:Int)]).length+[(255:Int)].length)*(1:Nat)≤(140737488355328:Nat)∧(x.xs++stuffB (List.take
 x_1 x.b)++[x.b.getD (x_1:Int).toNat (0:Int)]).length+[(255:Int)].length≤(1152921504606846976:Nat)∧inI64 ((x_1:Int)+(1:Int))∧∃
 y,Nat.le y x.b.length∧x.b.length-y<x.b.length-x_1∧(y:Int)=(x_1:Int)+(1:Int)∧((True∧True)∧True)∧x.xs++stuffB (List.take
 y x.b)=x.xs++stuffB (List.take x_1 x.b)++[x.b.getD (x_1:Int).toNat (0:Int)]++[(255:Int)]∧True)∧((x.b.getD (x_1:Int).toNat (0 :
 Int)==(0:Int))=false→inI64 ((x_1:Int)+(1:Int))∧∃ y,Nat.le y x.b.length∧x.b.length-y<x.b.length-x_1∧(y:Int)=(↑x_1 :
 Int)+(1:Int)∧((True∧True)∧True)∧x.xs++stuffB (List.take y x.b)=x.xs++stuffB (List.take x_1 x.b)++[x.b.getD (x_1:Int).toNat (0 :
 Int)]∧True))∧(decide ((x_1:Int)<(x.b.length:Int))=false→((x.xs++stuffB (List.take x_1 x.b)).length+[(0:Int),(0:Int)].length) *
 (1:Nat)≤(140737488355328:Nat)∧(x.xs++stuffB (List.take x_1 x.b)).length+[(0:Int),(0:Int)].length≤(1152921504606846976:Nat)∧True
 ∧ ((True∧True)∧True)∧x.xs++bytesB x.b=x.xs++stuffB (List.take x_1 x.b)++[(0:Int),(0:Int)]∧True)
theorem wBytes_eq:wBytesVC=fnS E88 f85 (bodyOf f85) wBytesLS wBytesAnn:=by kernel_rfl
theorem wBytes_vc:wBytesVC:=by
 rintro ⟨xs,b⟩ ⟨hl,hb⟩
 simp only at hl hb
 simp only [true_and,and_true,decide_eq_true_eq,decide_eq_false_iff_not,Int.toNat_natCast,List.length_append,List.length_singleton,List.length_cons,List.length_nil,beq_iff_eq,beq_eq_false_iff_ne,ne_eq]
 refine fun _=>⟨⟨0,Nat.zero_le _,rfl,by simp [stuffB]⟩,fun i hi=>⟨fun h=>?_,fun h=>?_⟩⟩
 ·have hi':i<b.length:=by omega
  have p1:=stuffB_take_le b i
  have hup:=take_up hi' rfl
  refine ⟨by omega,h,hi',by omega,by omega,fun h0=>⟨by omega,by omega,by unfold inI64; omega,i+1,hi',by omega,by omega,?_⟩,fun h0=>⟨by unfold inI64; omega,i+1,hi',by omega,by omega,?_⟩⟩
  ·rw [hup,stuffB_app,h0]
   simp [stuffB]
  ·rw [hup,stuffB_app]
   simp only [stuffB,if_neg h0,List.append_assoc]
 ·have p1:=stuffB_take_le b i
  refine ⟨by omega,by omega,?_⟩
  rw [List.take_of_length_le (by omega)]
  simp [bytesB]
theorem wBytes_ok:Fits E88 f85 (bodyOf f85) wBytesLS wBytesAnn:=by
 constructor
 rw [← wBytes_eq]
 exact wBytes_vc
theorem f104_has:Has prog 85 f85 (bodyOf f85):=⟨by kernel_rfl,by kernel_rfl,by kernel_rfl⟩
theorem known89:Known prog L89:=by
 unfold L89
 exact known88.lent mixed f104_has E88_eq wBytes_ok (fun _ _=>by simp [wBytesLS]) (fun h=>by cases h)
def id1VC:Prop:=∀ (x:TIn),True→(SV.val (A:=AA) (Value.slice none (0:Nat) (0:Nat)):SV AA)=SV.val (A:=AA) (Value.slice none (0:Nat) (0:Nat))∧True
 ∧ True
theorem id1_eq:id1VC=fnS E89 f46 (bodyOf f46) id1LS noAnn:=by kernel_rfl
theorem id1_ok:Fits E89 f46 (bodyOf f46) id1LS noAnn:=by
 constructor
 rw [← id1_eq]
 exact fun _ _=>⟨rfl,trivial,trivial⟩
theorem f71_has:Has prog 46 f46 (bodyOf f46):=⟨by kernel_rfl,by kernel_rfl,by kernel_rfl⟩
theorem known90:Known prog L90:=by
 unfold L90
 exact known89.lent mixed f71_has E89_eq id1_ok (fun _ _=>Nat.le_refl _) (fun _ _=>rfl)
theorem f70_has:Has prog 45 f45 (bodyOf f45):=⟨by kernel_rfl,by kernel_rfl,by kernel_rfl⟩
theorem known91:Known prog L91:=by
 unfold L91
 exact known90.inl mixed f70_has E90_eq (by rfl)
theorem byt_app {a b:List Int} (ha:Byt a) (hb:Byt b):Byt (a++b):=fun y hy=>by
 rcases List.mem_append.1 hy with h | h
 ·exact ha y h
 ·exact hb y h
theorem byt_nil:Byt []:=fun y h=>by cases h
theorem uintB_byt (x:Int):Byt (uintB (wr .u64 x)):=fun y hy=>by
 rcases List.mem_cons.1 hy with h | h
 ·have:=digs_le (u64_wr x)
  rw [h]
  omega
 ·exact digs_byte h
theorem keysB_byt:∀ l:List Int,Byt (keysB l)
 | []=>byt_nil
 | k::l=>byt_app (uintB_byt k) (keysB_byt l)
theorem brsB_byt:∀ {l:List Br},(∀ b,b∈l→Byt b.lock)→Byt (brsB l)
 | [],_=>byt_nil
 | b::l,h=>by
  refine byt_app ?_ (brsB_byt fun c hc=>h c (List.mem_cons_of_mem _ hc))
  exact byt_app (byt_app (byt_app (byt_app (uintB_byt _) (keysB_byt _)) (h b List.mem_cons_self)) (uintB_byt _)) (uintB_byt _)
theorem stuffB_byt:∀ {l:List Int},Byt l→Byt (stuffB l)
 | [],_=>byt_nil
 | c::l,h=>by
  have h1:=stuffB_byt (l:=l) (fun y hy=>h y (List.mem_cons_of_mem _ hy))
  have h2:=h c List.mem_cons_self
  intro y hy
  simp only [stuffB] at hy
  split at hy
  ·simp only [List.mem_cons] at hy
   rcases hy with rfl | rfl | hy
   ·omega
   ·omega
   ·exact h1 y hy
  ·rcases List.mem_cons.1 hy with rfl | hy
   ·exact h2
   ·exact h1 y hy
theorem bytesB_byt {l:List Int} (h:Byt l):Byt (bytesB l):=byt_app (stuffB_byt h) (fun y hy=>by simp only [List.mem_cons,List.not_mem_nil,or_false] at hy; omega)
theorem insB_app (sec:TIn→List Int):∀ a b:List TIn,insB sec (a++b)=insB sec a++insB sec b
 | [],b=>rfl
 | x::a,b=>by simp [insB,insB_app sec a b]
theorem insB_up {sec:TIn→List Int} {l:List TIn} {i:Nat} {y:TIn} (h:l[i]?=some y):insB sec (l.take (i+1))=insB sec (l.take i)++inB sec y:=by
 rw [List.take_add_one,h,insB_app]
 simp [insB]
theorem toutsB_app:∀ a b:List TOut,toutsB (a++b)=toutsB a++toutsB b
 | [],b=>rfl
 | x::a,b=>by simp [toutsB,toutsB_app a b]
theorem toutsB_up {l:List TOut} {i:Nat} {y:TOut} (h:l[i]?=some y):toutsB (l.take (i+1))=toutsB (l.take i)++toutB y:=by
 rw [List.take_add_one,h,toutsB_app]
 simp [toutsB]
theorem insB_le {sec:TIn→List Int} {m:Nat} (hs:∀ x,(sec x).length≤m):∀ {l:List TIn},(∀ x,x∈l→x.tx.length=32)→(insB sec l).length≤(52+2*m)*l.length
 | [],_=>by simp [insB]
 | x::l,h=>by
  have h1:=insB_le hs (l:=l) (fun y hy=>h y (List.mem_cons_of_mem _ hy))
  have h2:=h x List.mem_cons_self
  have h3:=uintB_le x.n
  have h4:=uintB_le x.branch
  have h5:=stuffB_le (sec x)
  have h6:=hs x
  simp only [insB,inB,bytesB,List.length_append,List.length_cons,List.length_nil]
  have e:(52+2*m)*(l.length+1)=(52+2*m)*l.length+(52+2*m):=by rw [Nat.mul_add,Nat.mul_one]
  omega
theorem toutsB_le:∀ {l:List TOut},(∀ o,o∈l→Locks o.cond)→(toutsB l).length≤18*l.length+59*sumW l
 | [],_=>by simp [toutsB]
 | o::l,h=>by
  have h1:=toutsB_le (l:=l) (fun y hy=>h y (List.mem_cons_of_mem _ hy))
  have h2:=putB_le (h o List.mem_cons_self)
  have h3:=uintB_le o.amount
  simp only [toutsB,toutB,sumW,List.length_append,List.length_cons]
  omega
theorem insB_take_le {sec:TIn→List Int} {m:Nat} (hs:∀ x,(sec x).length≤m) {l:List TIn} (h:∀ x,x∈l→x.tx.length=32) (i:Nat):(insB sec (l.take i)).length≤(52+2*m)*l.length:=by
 have h1:=insB_le hs h
 have h2:=congrArg (fun x=>(insB sec x).length) (List.take_append_drop i l)
 simp only [insB_app,List.length_append] at h2
 omega
theorem toutsB_take_le {l:List TOut} (h:∀ o,o∈l→Locks o.cond) (i:Nat):(toutsB (l.take i)).length≤18*l.length+59*sumW l:=by
 have h1:=toutsB_le h
 have h2:=congrArg (fun x=>(toutsB x).length) (List.take_append_drop i l)
 simp only [toutsB_app,List.length_append] at h2
 omega
theorem weight_sum:∀ {l:List TOut} {o:TOut},o∈l→weight o.cond≤sumW l
 | [],o,h=>by cases h
 | p::l,o,h=>by
  simp only [sumW]
  rcases List.mem_cons.1 h with rfl | h
  ·omega
  ·have:=weight_sum h; omega
theorem insB_byt {sec:TIn→List Int} (hs:∀ x,Byt (sec x)):∀ {l:List TIn},(∀ x,x∈l→Byt x.tx)→Byt (insB sec l)
 | [],_=>byt_nil
 | x::l,h=>byt_app (byt_app (byt_app (byt_app (h x List.mem_cons_self) (uintB_byt _)) (uintB_byt _)) (bytesB_byt (hs x))) (insB_byt hs fun y hy=>h y (List.mem_cons_of_mem _ hy))
theorem toutsB_byt:∀ {l:List TOut},(∀ o,o∈l→∀ b,b∈o.cond→Byt b.lock)→Byt (toutsB l)
 | [],_=>byt_nil
 | o::l,h=>byt_app (byt_app (uintB_byt _) (byt_app (uintB_byt _) (brsB_byt (h o List.mem_cons_self)))) (toutsB_byt fun y hy=>h y (List.mem_cons_of_mem _ hy))
end Go.Proofs.YthkffadomgcdaaaGreatDoor

/-! A transaction's sum: the walk holds. Conditions: none. -/
namespace Go.Proofs.YthkffadomgcdaaaGreatDoor
open Go Go.Eng Go.Proofs.Tryz
def tA0 (x:TxD):List Int:=[]++uintB (wr IntKind.u64 x.lock)
def tA1 (x:TxD):List Int:=[]++uintB (wr IntKind.u64 x.lock)++uintB (wr IntKind.u64 (x.ins.length:Int))
def tA2 (x:TxD) (k:Nat):List Int:=tA1 x++insB (secOf (46:Nat)) (List.take k x.ins)
def tA3 (x:TxD) (k:Nat) (y:TIn):List Int:=tA2 x k++y.tx
def tA4 (x:TxD) (k:Nat) (y:TIn):List Int:=tA3 x k y++uintB (wr IntKind.u64 y.n)
def tA5 (x:TxD) (k:Nat) (y:TIn):List Int:=tA4 x k y++uintB (wr IntKind.u64 y.branch)
def tA6 (x:TxD) (k:Nat):List Int:=tA2 x k++uintB (wr IntKind.u64 (x.outs.length:Int))
def tA7 (x:TxD) (k i:Nat):List Int:=tA6 x k++toutsB (List.take i x.outs)
def tA8 (y:TOut):List Int:=[]++uintB (wr IntKind.u64 y.amount)
def tH (x:TxD):Prop:=((x.lock=x.lock∧x.ins=x.ins∧x.outs=x.outs∧True)∧(List.replicate (32:Nat) (0:Int)=List.replicate (32:Nat) (0:Int)∧True)∧(x.lock=x.lock∧x.ins=x.ins∧x.outs=x.outs∧True)∧(True∧True)∧True)
def tH2 (x:TxD) (k:Nat):Prop:=((x.lock=x.lock∧x.ins=x.ins∧x.outs=x.outs∧True)∧(List.replicate (32:Nat) (0:Int)=List.replicate (32:Nat) (0:Int)∧True)∧(x.lock=x.lock∧x.ins=x.ins∧x.outs=x.outs∧True)∧(True∧True)∧tA6 x k=tA6 x k∧True)
theorem tH_ok (x:TxD):tH x:=⟨⟨rfl,rfl,rfl,trivial⟩,⟨rfl,trivial⟩,⟨rfl,rfl,rfl,trivial⟩,⟨trivial,trivial⟩,trivial⟩
theorem tH2_ok (x:TxD) (k:Nat):tH2 x k:=⟨⟨rfl,rfl,rfl,trivial⟩,⟨rfl,trivial⟩,⟨rfl,rfl,rfl,trivial⟩,⟨trivial,trivial⟩,rfl,trivial⟩
def tF (x:TxD) (k:Nat) (y:TIn):Prop:=inI64 ((k:Int)+(1:Int))∧∃ y_1,Nat.le y_1 x.ins.length∧x.ins.length-y_1<x.ins.length-k∧(y_1:Int)=(k:Int)+(1:Int)∧tH x∧tA1 x++insB (secOf (46:Nat)) (List.take y_1 x.ins)=tA5 x k y++bytesB []∧True
def tG (x:TxD) (k:Nat) (y:TIn):Prop:=(y.tx=y.tx∧y.n=y.n∧y.branch=y.branch∧y.secret=y.secret∧True)∧True∧True∧(True∧([]:List Int)=[])∧((True∧True)∧tA5 x k y=tA5 x k y∧True)∧(BB.mk (tA5 x k y) []).Ok∧tF x k y
def tK (x:TxD) (k:Nat) (y:TIn):Prop:=(True∧wr IntKind.u64 y.branch=wr IntKind.u64 y.branch)∧((True∧True)∧tA4 x k y=tA4 x k y∧True)∧(BN.mk (tA4 x k y) (wr IntKind.u64 y.branch)).Low∧tG x k y
def tL (x:TxD) (k:Nat) (y:TIn):Prop:=(True∧wr IntKind.u64 y.n=wr IntKind.u64 y.n)∧((True∧True)∧tA3 x k y=tA3 x k y∧True)∧(BN.mk (tA3 x k y) (wr IntKind.u64 y.n)).Low∧tK x k y
def tM (x:TxD) (k i:Nat) (y:TOut):Prop:=((tA7 x k i).length+(tA8 y).length)*(1:Nat)≤(140737488355328:Nat)∧(tA7 x k i).length+(tA8 y).length≤(1152921504606846976:Nat)∧(tA7 x k i++(tA8 y)=tA7 x k i++(tA8 y)∧y.cond=y.cond∧True)∧True∧(PutX.mk (tA7 x k i++(tA8 y)) y.cond).Ok∧inI64 ((i:Int)+(1:Int))∧∃ y_1,Nat.le y_1 x.outs.length∧x.outs.length-y_1<x.outs.length-i∧((y_1:Int)=(i:Int)+(1:Int)∧True)∧tH2 x k∧tA6 x k++toutsB (List.take y_1 x.outs)=tA7 x k i++(tA8 y)++putB y.cond∧True
def tBody (x:TxD):Prop:=((x.ins.length:Int)≤(9223372036854775807:Int)→(∃ x_1,Nat.le x_1 x.ins.length∧(x_1:Int)=(0:Int)∧tH x∧tA2 x x_1=tA1 x∧True) ∧
 ∀ (x_1:Nat),x_1.le x.ins.length→(decide ((x_1:Int)<(x.ins.length:Int))=true→(0:Int)≤(x_1:Int)∧(x_1:Int)<(↑x.ins.length :
 Int)∧∀ (y:AA (76:Nat)),x.ins[(x_1:Int).toNat]?=some y→((True∧y.tx=y.tx∧True)∧((True∧True)∧tA2 x x_1=tA2 x x_1∧True) ∧
 (BH.mk (tA2 x x_1) y.tx).Ok∧((True∧wr IntKind.u64 y.n=wr IntKind.u64 y.n)∧((True∧True)∧tA3 x x_1 y=tA3 x x_1 y∧True)∧(BN.mk (tA3 x
 x_1 y) (wr IntKind.u64 y.n)).Low∧(tK x x_1 y)∧tK x x_1 y)∧(((True∧wr IntKind.u64 y.n=wr IntKind.u64 y.n)∧((True∧True)∧tA3 x x_1 y=tA3
 x x_1 y∧True)∧(BN.mk (tA3 x x_1 y) (wr IntKind.u64 y.n)).Low∧(tK x x_1 y)∧tK x x_1 y)∧tL x x_1 y)∧(tL x x_1 y)∧tL x x_1 y)∧(((True ∧
 y.tx=y.tx∧True)∧((True∧True)∧tA2 x x_1=tA2 x x_1∧True)∧(BH.mk (tA2 x x_1) y.tx).Ok∧((True∧wr IntKind.u64 y.n=wr IntKind.u64 y.n)
 ∧ ((True∧True)∧tA3 x x_1 y=tA3 x x_1 y∧True)∧(BN.mk (tA3 x x_1 y) (wr IntKind.u64 y.n)).Low∧(tK x x_1 y)∧tK x x_1 y)∧(((True∧wr
 IntKind.u64 y.n=wr IntKind.u64 y.n)∧((True∧True)∧tA3 x x_1 y=tA3 x x_1 y∧True)∧(BN.mk (tA3 x x_1 y) (wr IntKind.u64 y.n)).Low∧(tK x x_1
 y)∧tK x x_1 y)∧tL x x_1 y)∧(tL x x_1 y)∧tL x x_1 y)∧(((True∧y.tx=y.tx∧True)∧((True∧True)∧tA2 x x_1=tA2 x x_1∧True)∧(BH.mk
 (tA2 x x_1) y.tx).Ok∧((True∧wr IntKind.u64 y.n=wr IntKind.u64 y.n)∧((True∧True)∧tA3 x x_1 y=tA3 x x_1 y∧True)∧(BN.mk (tA3 x x_1 y)
 (wr IntKind.u64 y.n)).Low∧(tK x x_1 y)∧tK x x_1 y)∧tL x x_1 y)∧(True∧y.tx=y.tx∧True)∧((True∧True)∧tA2 x x_1=tA2 x x_1∧True) ∧
 (BH.mk (tA2 x x_1) y.tx).Ok∧tL x x_1 y)∧((True∧y.tx=y.tx∧True)∧((True∧True)∧tA2 x x_1=tA2 x x_1∧True)∧(BH.mk (tA2 x x_1) y.tx).Ok
 ∧ (tL x x_1 y)∧tL x x_1 y)∧(True∧y.tx=y.tx∧True)∧((True∧True)∧tA2 x x_1=tA2 x x_1∧True)∧(BH.mk (tA2 x x_1) y.tx).Ok∧tL x x_1 y)
 ∧ (((True∧y.tx=y.tx∧True)∧((True∧True)∧tA2 x x_1=tA2 x x_1∧True)∧(BH.mk (tA2 x x_1) y.tx).Ok∧((True∧wr IntKind.u64 y.n=wr
 IntKind.u64 y.n)∧((True∧True)∧tA3 x x_1 y=tA3 x x_1 y∧True)∧(BN.mk (tA3 x x_1 y) (wr IntKind.u64 y.n)).Low∧(tK x x_1 y)∧tK x x_1 y) ∧
 tL x x_1 y)∧(((True∧y.tx=y.tx∧True)∧((True∧True)∧tA2 x x_1=tA2 x x_1∧True)∧(BH.mk (tA2 x x_1) y.tx).Ok∧((True∧wr IntKind.u64
 y.n=wr IntKind.u64 y.n)∧((True∧True)∧tA3 x x_1 y=tA3 x x_1 y∧True)∧(BN.mk (tA3 x x_1 y) (wr IntKind.u64 y.n)).Low∧(tK x x_1 y)∧tK x
 x_1 y)∧tL x x_1 y)∧(True∧y.tx=y.tx∧True)∧((True∧True)∧tA2 x x_1=tA2 x x_1∧True)∧(BH.mk (tA2 x x_1) y.tx).Ok∧tL x x_1 y) ∧
 ((True∧y.tx=y.tx∧True)∧((True∧True)∧tA2 x x_1=tA2 x x_1∧True)∧(BH.mk (tA2 x x_1) y.tx).Ok∧tL x x_1 y)∧(True∧y.tx=y.tx∧True)
 ∧ ((True∧True)∧tA2 x x_1=tA2 x x_1∧True)∧(BH.mk (tA2 x x_1) y.tx).Ok∧tL x x_1 y)∧((True∧y.tx=y.tx∧True)∧((True∧True)∧tA2 x
 x_1=tA2 x x_1∧True)∧(BH.mk (tA2 x x_1) y.tx).Ok∧(tL x x_1 y)∧tL x x_1 y)∧(((True∧y.tx=y.tx∧True)∧((True∧True)∧tA2 x x_1=tA2 x
 x_1∧True)∧(BH.mk (tA2 x x_1) y.tx).Ok∧(tL x x_1 y)∧tL x x_1 y)∧(True∧y.tx=y.tx∧True)∧((True∧True)∧tA2 x x_1=tA2 x x_1∧True) ∧
 (BH.mk (tA2 x x_1) y.tx).Ok∧tL x x_1 y)∧((True∧y.tx=y.tx∧True)∧((True∧True)∧tA2 x x_1=tA2 x x_1∧True)∧(BH.mk (tA2 x x_1) y.tx).Ok
 ∧ tL x x_1 y)∧(True∧y.tx=y.tx∧True)∧((True∧True)∧tA2 x x_1=tA2 x x_1∧True)∧(BH.mk (tA2 x x_1) y.tx).Ok∧tL x x_1 y)∧(decide
 ((x_1:Int)<(x.ins.length:Int))=false→(x.outs.length:Int)≤(9223372036854775807:Int)→(True∧wr IntKind.u64 (x.outs.length:Int) =
 wr IntKind.u64 (x.outs.length:Int))∧((True∧True)∧tA2 x x_1=tA2 x x_1∧True)∧(BN.mk (tA2 x x_1) (wr IntKind.u64 (↑x.outs.length :
 Int))).Low∧True∧((True∧True)∧tA6 x x_1=tA6 x x_1∧True)∧(tA6 x x_1).length.le (1099511627776:Nat)∧((x.outs.length:Int) ≤
 (9223372036854775807:Int)→(∃ x_2,Nat.le x_2 x.outs.length∧((x_2:Int)=(0:Int)∧True)∧tH2 x x_1∧tA7 x x_1 x_2=tA6 x x_1∧True)∧∀
 (x_2:Nat),x_2.le x.outs.length→(decide ((x_2:Int)<(x.outs.length:Int))=true→(0:Int)≤(x_2:Int)∧(x_2:Int)<(↑x.outs.length
 : Int)∧∀ (y:AA (73:Nat)),x.outs[(x_2:Int).toNat]?=some y→(True∧True∧True∧((True∧wr IntKind.u64 y.amount=wr IntKind.u64
 y.amount)∧((SV.val (A:=AA) (Value.slice none (0:Nat) (0:Nat))=SV.val (A:=AA) (Value.slice none (0:Nat) (0:Nat))∧True)∧([]:List
 Int)=[]∧True)∧(BN.mk [] (wr IntKind.u64 y.amount)).Low∧(True∧((True∧True)∧tA8 y=tA8 y∧True)∧(tA8 y).length.le (1099511627776:Nat)
 ∧ (tM x x_1 x_2 y)∧tM x x_1 x_2 y)∧True∧((True∧True)∧tA8 y=tA8 y∧True)∧(tA8 y).length.le (1099511627776:Nat)∧tM x x_1 x_2 y) ∧
 (True∧wr IntKind.u64 y.amount=wr IntKind.u64 y.amount)∧((SV.val (A:=AA) (Value.slice none (0:Nat) (0:Nat))=SV.val (A:=AA) (Value.slice
 none (0:Nat) (0:Nat))∧True)∧([]:List Int)=[]∧True)∧(BN.mk [] (wr IntKind.u64 y.amount)).Low∧True∧((True∧True)∧tA8 y=tA8 y ∧
 True)∧(tA8 y).length.le (1099511627776:Nat)∧tM x x_1 x_2 y)∧True∧True∧True∧(True∧wr IntKind.u64 y.amount=wr IntKind.u64 y.amount) ∧
 ((SV.val (A:=AA) (Value.slice none (0:Nat) (0:Nat))=SV.val (A:=AA) (Value.slice none (0:Nat) (0:Nat))∧True)∧([]:List Int)=[] ∧
 True)∧(BN.mk [] (wr IntKind.u64 y.amount)).Low∧True∧((True∧True)∧tA8 y=tA8 y∧True)∧(tA8 y).length.le (1099511627776:Nat)∧tM x x_1
 x_2 y)∧(decide ((x_2:Int)<(x.outs.length:Int))=false→tA7 x x_1 x_2=tA7 x x_1 x_2∧True∧Bytes (tA7 x x_1 x_2)∧(idB x=sumB orderL
 (tA7 x x_1 x_2)∧True)∧True∧True))))
def tidVC:Prop:=∀ (x:TxD),TxOk x→(True∧True∧True∧((True∧wr IntKind.u64 x.lock=wr IntKind.u64 x.lock)∧(((SV.val (A:=AA) (Value.slice none (0:Nat)
 (0:Nat)):SV AA)=SV.val (A:=AA) (Value.slice none (0:Nat) (0:Nat))∧True)∧([]:List Int)=[]∧True)∧(BN.mk [] (wr IntKind.u64
 x.lock)).Low∧((x.ins.length:Int)≤(9223372036854775807:Int)→(True∧wr IntKind.u64 (x.ins.length:Int)=wr IntKind.u64 (↑x.ins.length :
 Int))∧((True∧True)∧tA0 x=tA0 x∧True)∧(BN.mk (tA0 x) (wr IntKind.u64 (x.ins.length:Int))).Low∧tBody x))∧((x.ins.length:Int) ≤
 (9223372036854775807:Int)→(True∧wr IntKind.u64 x.lock=wr IntKind.u64 x.lock)∧(((SV.val (A:=AA) (Value.slice none (0:Nat) (0:Nat)):SV
 AA)=SV.val (A:=AA) (Value.slice none (0:Nat) (0:Nat))∧True)∧([]:List Int)=[]∧True)∧(BN.mk [] (wr IntKind.u64 x.lock)).Low∧(True ∧
 wr IntKind.u64 (x.ins.length:Int)=wr IntKind.u64 (x.ins.length:Int))∧((True∧True)∧tA0 x=tA0 x∧True)∧(BN.mk (tA0 x) (wr IntKind.u64
 (x.ins.length:Int))).Low∧tBody x))∧((x.ins.length:Int)≤(9223372036854775807:Int)→True∧True∧True∧(True∧wr IntKind.u64 x.lock =
 wr IntKind.u64 x.lock)∧(((SV.val (A:=AA) (Value.slice none (0:Nat) (0:Nat)):SV AA)=SV.val (A:=AA) (Value.slice none (0:Nat) (0:Nat))
 ∧ True)∧([]:List Int)=[]∧True)∧(BN.mk [] (wr IntKind.u64 x.lock)).Low∧(True∧wr IntKind.u64 (x.ins.length:Int)=wr IntKind.u64
 (x.ins.length:Int))∧((True∧True)∧tA0 x=tA0 x∧True)∧(BN.mk (tA0 x) (wr IntKind.u64 (x.ins.length:Int))).Low∧tBody x)
theorem tid_eq:tidVC=fnS E91 f22 (bodyOf f22) idLS noAnn:=by kernel_rfl
theorem low_of {xs:List Int} {n:Int} (h:xs.length≤1000000000000):(BN.mk xs (wr .u64 n)).Low:=⟨h,u64_wr n⟩
theorem tA1_le (x:TxD):(tA1 x).length≤18:=by
 have h1:=uintB_le x.lock
 have h2:=uintB_le (x.ins.length:Int)
 simp only [tA1,List.nil_append,List.length_append]
 omega
theorem sec0_le:∀ x:TIn,(secOf 46 x).length≤0:=fun _=>Nat.le_refl _
theorem tA2_le {x:TxD} (h:TxOk x) (k:Nat):(tA2 x k).length≤18+52*x.ins.length:=by
 have h1:=tA1_le x
 have h2:=insB_take_le sec0_le (fun y hy=>(h.tx y hy).1) k
 simp only [tA2,List.length_append]
 omega
theorem tA6_le {x:TxD} (h:TxOk x) (k:Nat):(tA6 x k).length≤27+52*x.ins.length:=by
 have h1:=tA2_le h k
 have h2:=uintB_le (x.outs.length:Int)
 simp only [tA6,List.length_append]
 omega
theorem tA7_le {x:TxD} (h:TxOk x) (k i:Nat):(tA7 x k i).length≤27+52*x.ins.length+18*x.outs.length+59*sumW x.outs:=by
 have h1:=tA6_le h k
 have h2:=toutsB_take_le (fun o ho=>(h.locks o ho).1) i
 simp only [tA7,List.length_append]
 omega
theorem tF_ok {x:TxD} (hx:TxOk x) {k:Nat} (hk:k<x.ins.length) {y:TIn} (hy:x.ins[k]?=some y):tF x k y:=by
 have h1:=hx.n
 refine ⟨by unfold inI64; omega,k+1,hk,by omega,by omega,tH_ok x,?_,trivial⟩
 rw [insB_up hy]
 simp only [tA5,tA4,tA3,tA2,inB,List.append_assoc]
 rfl
theorem tG_ok {x:TxD} (hx:TxOk x) {k:Nat} (hk:k<x.ins.length) {y:TIn} (hy:x.ins[k]?=some y):tG x k y:=by
 have h1:=hx.n
 have h2:=tA2_le hx k
 have h3:=(hx.tx y (List.mem_of_getElem? hy)).1
 have h4:=uintB_le y.n
 have h5:=uintB_le y.branch
 refine ⟨⟨rfl,rfl,rfl,rfl,trivial⟩,trivial,trivial,⟨trivial,rfl⟩,⟨⟨trivial,trivial⟩,rfl,trivial⟩,⟨?_,by simp⟩,tF_ok hx hk hy⟩
 simp only [tA5,tA4,tA3,List.length_append]
 omega
theorem tK_ok {x:TxD} (hx:TxOk x) {k:Nat} (hk:k<x.ins.length) {y:TIn} (hy:x.ins[k]?=some y):tK x k y:=by
 have h1:=hx.n
 have h2:=tA2_le hx k
 have h3:=(hx.tx y (List.mem_of_getElem? hy)).1
 have h4:=uintB_le y.n
 refine ⟨⟨trivial,rfl⟩,⟨⟨trivial,trivial⟩,rfl,trivial⟩,low_of ?_,tG_ok hx hk hy⟩
 simp only [tA4,tA3,List.length_append]
 omega
theorem tL_ok {x:TxD} (hx:TxOk x) {k:Nat} (hk:k<x.ins.length) {y:TIn} (hy:x.ins[k]?=some y):tL x k y:=by
 have h1:=hx.n
 have h2:=tA2_le hx k
 have h3:=(hx.tx y (List.mem_of_getElem? hy)).1
 refine ⟨⟨trivial,rfl⟩,⟨⟨trivial,trivial⟩,rfl,trivial⟩,low_of ?_,tK_ok hx hk hy⟩
 simp only [tA3,List.length_append]
 omega
theorem tM_ok {x:TxD} (hx:TxOk x) (k:Nat) {i:Nat} (hi:i<x.outs.length) {y:TOut} (hy:x.outs[i]?=some y):tM x k i y:=by
 have h1:=hx.n
 have h2:=hx.m
 have h3:=hx.w
 have h4:=tA7_le hx k i
 have h5:=uintB_le y.amount
 have h6:=weight_sum (List.mem_of_getElem? hy)
 have h7:(tA8 y).length≤9:=by simp only [tA8,List.nil_append]; exact h5
 refine ⟨by omega,by omega,⟨rfl,rfl,trivial⟩,trivial,⟨?_,show weight y.cond≤2000000 by omega,(hx.locks y (List.mem_of_getElem? hy)).1⟩,by unfold inI64; omega,i+1,hi,by omega,⟨by omega,trivial⟩,tH2_ok x k,?_,trivial⟩
 ·simp only [List.length_append]
  omega
 ·rw [toutsB_up hy]
  simp only [tA7,tA8,toutB,List.nil_append,List.append_assoc]
theorem tA7_all {x:TxD} {k i:Nat} (hk:x.ins.length≤k) (hi:x.outs.length≤i):tA7 x k i=putTx (fun _=>[]) x:=by
 simp only [tA7,tA6,tA2,tA1,putTx,List.take_of_length_le hk,List.take_of_length_le hi,List.nil_append]
 rfl
theorem putTx_byt {x:TxD} (hx:TxOk x):Byt (putTx (fun _=>[]) x):=
 byt_app (byt_app (byt_app (byt_app (uintB_byt _) (uintB_byt _)) (insB_byt (fun _=>byt_nil) fun y hy=>(hx.tx y hy).2)) (uintB_byt _)) (toutsB_byt fun o ho=>(hx.locks o ho).2)
theorem tBody_ok {x:TxD} (hx:TxOk x):tBody x:=by
 have h1:=hx.n
 have h2:=hx.m
 have h3:=hx.w
 unfold tBody
 simp only [true_and,and_true,decide_eq_true_eq,decide_eq_false_iff_not,Int.toNat_natCast,tH_ok,tH2_ok]
 refine fun _=>⟨⟨0,Nat.zero_le _,rfl,by simp [tA2,insB]⟩,fun k hk=>⟨fun h=>?_,fun h _=>?_⟩⟩
 ·have hk':k<x.ins.length:=by omega
  refine ⟨by omega,h,fun y hy=>?_⟩
  have p1:=tL_ok hx hk' (y:=y) hy
  have p2:=tK_ok hx hk' (y:=y) hy
  have p3:=tA2_le hx k
  have p4:y.tx.length=32:=(hx.tx y (List.mem_of_getElem? hy)).1
  have p5:(BH.mk (tA2 x k) y.tx).Ok:=⟨show (tA2 x k).length≤1099511627776 by omega,p4⟩
  have p6:(BN.mk (tA3 x k y) (wr .u64 y.n)).Low:=p1.2.2.1
  simp only [p1,p2,p5,p6,and_self]
 ·have q1:=tA2_le hx k
  have q2:=tA6_le hx k
  refine ⟨low_of (by omega),show (tA6 x k).length≤1099511627776 by omega,fun _=>⟨⟨0,Nat.zero_le _,rfl,by simp [tA7,toutsB]⟩,fun i hi=>⟨fun h4=>?_,fun h4=>?_⟩⟩⟩
  ·have hi':i<x.outs.length:=by omega
   refine ⟨by omega,h4,fun y hy=>?_⟩
   have p1:=tM_ok hx k hi' (y:=y) hy
   have p2:(BN.mk [] (wr .u64 y.amount)).Low:=low_of (by simp)
   have p3:(tA8 y).length.le 1099511627776:=by
    have:=uintB_le y.amount
    show (tA8 y).length≤1099511627776
    simp only [tA8,List.nil_append]
    omega
   simp only [p1,p2,p3,and_self]
  ·rw [tA7_all (by omega) (by omega)]
   have hl:=tA7_le hx x.ins.length x.outs.length
   rw [tA7_all (Nat.le_refl _) (Nat.le_refl _)] at hl
   exact ⟨⟨putTx_byt hx,by omega⟩,rfl⟩
theorem tid_vc:tidVC:=by
 intro x hx
 have h1:=tBody_ok hx
 have h2:(BN.mk [] (wr .u64 x.lock)).Low:=low_of (by simp)
 have h3:(BN.mk (tA0 x) (wr .u64 (x.ins.length:Int))).Low:=low_of (by
  have:=uintB_le x.lock
  simp only [tA0,List.nil_append]
  omega)
 simp only [h1,h2,h3,and_self,implies_true]
theorem tid_ok:Fits E91 f22 (bodyOf f22) idLS noAnn:=by
 constructor
 rw [← tid_eq]
 exact tid_vc
theorem f37_has:Has prog 22 f22 (bodyOf f22):=⟨by kernel_rfl,by kernel_rfl,by kernel_rfl⟩
theorem known92:Known prog L92:=by
 unfold L92
 exact known91.lent mixed f37_has E91_eq tid_ok (fun _ _=>Nat.le_refl _) (fun _ _=>rfl)
end Go.Proofs.YthkffadomgcdaaaGreatDoor

/-! At, sure, the document's total, the totals' law: the walks hold. Conditions: none. -/
namespace Go.Proofs.YthkffadomgcdaaaGreatDoor
open Go Go.Eng Go.Proofs.Tryz
def tatVC:Prop:=∀ (x:AtX),TxOk x.t→(x.t.lock=x.t.lock∧x.t.ins=x.t.ins∧x.t.outs=x.t.outs∧True)∧True∧TxOk (TxD.mk x.t.lock x.t.ins x.t.outs)∧(idB
 x.t=idB (TxD.mk x.t.lock x.t.ins x.t.outs)∧x.n=x.n∧True)∧True∧True
theorem tat_eq:tatVC=fnS E92 f49 (bodyOf f49) atLS noAnn:=by kernel_rfl
theorem tat_ok:Fits E92 f49 (bodyOf f49) atLS noAnn:=by
 constructor
 rw [← tat_eq]
 exact fun x hx=>⟨⟨rfl,rfl,rfl,trivial⟩,trivial,hx,⟨rfl,rfl,trivial⟩,trivial,trivial⟩
theorem f63_has:Has prog 49 f49 (bodyOf f49):=⟨by kernel_rfl,by kernel_rfl,by kernel_rfl⟩
theorem known93:Known prog L93:=by
 unfold L93
 exact known92.lent mixed f63_has E92_eq tat_ok (fun _ _=>Nat.le_refl _) (fun _ _=>rfl)
end Go.Proofs.YthkffadomgcdaaaGreatDoor

/-! A ledger, a book of signatures: what is said of them. Conditions: none. -/
namespace Go.Proofs.YthkffadomgcdaaaGreatDoor
open Go Go.Eng Go.Proofs.Tryz
def castE {k v:Nat} (kt vt:Nat) (es:List (AA k×AA v)):Option (List (AA kt×AA vt)):=if h:k=kt then (if h2:v=vt then some (castM h h2 es) else none) else none
def mapG (kt vt:Nat) (sh:List (SO AA)):SV AA→Option (List (AA kt×AA vt))
 | .ptr i _=>match nth sh i with
  | some (.smap _ _ es _)=>castE kt vt es
  | some (.amap _ _ es)=>castE kt vt es
  | some (.rmap _ _ es _ _)=>castE kt vt es
  | _=>none
 | _=>none
structure LgX where
 es:List (Pt×EntD)
 total:Int
def lgSO (m:Nat) (x:LgX):SO AA := .cells 96 (.cell (.ptr m 0) (.cell (.int .i64 x.total) .nil))
def lgM (x:LgX):SO AA := .amap 71 99 (show List (AA 71×AA 99) from x.es)
def lgG (sh:List (SO AA)):SV AA→Option LgX
 | .ptr i 0=>match nth sh i with
  | some (.cells _ (.cell m (.cell n .nil)))=>match mapG 71 99 sh m,asI n with
   | some es,some n=>some ⟨es,n⟩
   | _,_=>none
  | _=>none
 | _=>none
def z16 (z:SV AA):SL AA := .cell z (.cell z (.cell z (.cell z (.cell z (.cell z (.cell z (.cell z (.cell z (.cell z (.cell z (.cell z (.cell z (.cell z (.cell z (.cell z .nil)))))))))))))))
def bnil:SV AA := .val (.slice none 0 0)
def bkSO (m:Nat) (z:SV AA):SO AA := .cells 119 (.cell (.ptr m 0) (z16 z))
def bkM (es:List (List Int×List Int)):SO AA := .amap 26 33 (show List (AA 26×AA 33) from es)
def bkG (sh:List (SO AA)):SV AA→Option (List (List Int×List Int))
 | .ptr i 0=>match nth sh i with
  | some (.cells _ (.cell m _))=>mapG 26 33 sh m
  | _=>none
 | _=>none
def hashG:SV AA→Option (List Int)
 | .agg (.run .u8 _ xs .nil)=>some xs
 | _=>none
def ptG:SV AA→Option Pt
 | .agg (.run .u8 _ xs (.cell n .nil))=>match asI n with
  | some n=>some ⟨xs,n⟩
  | none=>none
 | _=>none
def outSL (o:TOut):SL AA := .cell (.int .i64 o.amount) (.cell (.rseq 66 (show List (AA 66) from o.cond)) .nil)
noncomputable def L220:List (Nat×SpecT AA):=(15,numT)::L93
noncomputable def L221:List (Nat×SpecT AA):=(55,tLent orLS orGet)::L220
noncomputable def F221:Eng AA:=EF prog L221
theorem F221_eq:F221=EF prog L221:=by
 unfold F221
 rfl
def heightB (n:Int):Bool:=decide (n≥0)&&decide (n≤1099511627776)
def heightLS:LS AA where
 X:=Int
 pre:=fun _=>True
 args:=fun n=>[.int .i64 n]
 hin:=fun _=>[]
 res:=fun n=>[.sb 0 (heightB n)]
 hout:=fun _=>[]
noncomputable def L222:List (Nat×SpecT AA):=(37,tLent heightLS intGet)::L221
noncomputable def F222:Eng AA:=EF prog L222
theorem F222_eq:F222=EF prog L222:=by
 unfold F222
 rfl
def lownLS:LS AA where
 X:=TOut
 pre:=fun o=>weight o.cond≤300
 args:=fun o=>[.agg (outSL o)]
 hin:=fun _=>[]
 res:=fun o=>[.agg (outSL o)]
 hout:=fun _=>[]
noncomputable def L223:List (Nat×SpecT AA):=(27,tLent lownLS outGet)::L222
noncomputable def F223:Eng AA:=EF prog L223
theorem F223_eq:F223=EF prog L223:=by
 unfold F223
 rfl
def unitGet (args:List (SV AA)) (_:List (SO AA)):Option Unit:=match args with
 | []=>some ()
 | _=>none
def lnewLS:LS AA where
 X:=Unit
 pre:=fun _=>True
 args:=fun _=>[]
 hin:=fun _=>[]
 res:=fun _=>[.ptr 0 0]
 hout:=fun _=>[lgSO 1 ⟨[],0⟩,lgM ⟨[],0⟩]
noncomputable def L224:List (Nat×SpecT AA):=(17,tLent lnewLS unitGet)::L223
noncomputable def F224:Eng AA:=EF prog L224
theorem F224_eq:F224=EF prog L224:=by
 unfold F224
 rfl
def bnewLS:LS AA where
 X:=Unit
 pre:=fun _=>True
 args:=fun _=>[]
 hin:=fun _=>[]
 res:=fun _=>[.ptr 0 0]
 hout:=fun _=>[bkSO 1 bnil,bkM []]
noncomputable def L225:List (Nat×SpecT AA):=(18,tLent bnewLS unitGet)::L224
noncomputable def F225:Eng AA:=EF prog L225
theorem F225_eq:F225=EF prog L225:=by
 unfold F225
 rfl
def ltotalLS:LS AA where
 X:=LgX
 pre:=fun _=>True
 args:=fun _=>[.ptr 0 0]
 hin:=fun x=>[lgSO 1 x,lgM x]
 res:=fun x=>[.int .i64 x.total]
 hout:=fun x=>[lgSO 1 x,lgM x]
def lgGet (args:List (SV AA)) (sh:List (SO AA)):Option LgX:=match args with
 | [l]=>lgG sh l
 | _=>none
noncomputable def L226:List (Nat×SpecT AA):=(10,tLent ltotalLS lgGet)::L225
noncomputable def F226:Eng AA:=EF prog L226
theorem F226_eq:F226=EF prog L226:=by
 unfold F226
 rfl
structure MintX where
 l:LgX
 p:Pt
 o:TOut
 h:Int
structure MintX.Ok (x:MintX):Prop where
 w:weight x.o.cond≤300
 lo:0≤x.l.total
 hi:x.l.total≤1125899906842624
 tx:x.p.tx.length=32
def zIn:TIn:=⟨List.replicate 32 0,0,0,[]⟩
noncomputable def mintE (x:MintX):Int:=if heightB x.h=false then 4 else if checkT ⟨0,[zIn],[x.o]⟩≠0 then checkT ⟨0,[zIn],[x.o]⟩ else if (mfind x.p x.l.es).isSome then 9 else if x.o.amount>1125899906842624-x.l.total then 5 else 0
noncomputable def mintL (x:MintX):LgX:=if mintE x=0 then ⟨x.l.es++[(x.p,⟨x.o.amount,x.o.cond,x.h⟩)],x.l.total+x.o.amount⟩ else x.l
noncomputable def mintLS:LS AA where
 X:=MintX
 pre:=MintX.Ok
 args:=fun x=>[.ptr 0 0,.agg (encPt x.p),.agg (outSL x.o),.int .i64 x.h]
 hin:=fun x=>[lgSO 1 x.l,lgM x.l]
 res:=fun x=>[.err 111 (mintE x)]
 hout:=fun x=>[lgSO 1 (mintL x),lgM (mintL x)]
def mintGet (args:List (SV AA)) (sh:List (SO AA)):Option MintX:=match args with
 | [l,p,o,h]=>match lgG sh l,ptG p,outGet [o] sh,asI h with
  | some l,some p,some o,some h=>some ⟨l,p,o,h⟩
  | _,_,_,_=>none
 | _=>none
noncomputable def L227:List (Nat×SpecT AA):=(19,tLent mintLS mintGet)::L226
structure SignX where
 es:List (List Int×List Int)
 h:List Int
structure SignX.Ok (x:SignX):Prop where
 new:mfind x.h x.es=none
noncomputable def signLS:LS AA where
 X:=SignX
 pre:=SignX.Ok
 args:=fun x=>[.ptr 0 0,.lit .i64 1,hashV x.h]
 hin:=fun x=>[bkSO 1 bnil,bkM x.es]
 res:=fun _=>[.err 111 0]
 hout:=fun x=>[bkSO 1 .junk,bkM (x.es++[(x.h,[1])])]
def signGet (args:List (SV AA)) (sh:List (SO AA)):Option SignX:=match args with
 | [b,_,h]=>match bkG sh b,hashG h with
  | some es,some h=>some ⟨es,h⟩
  | _,_=>none
 | _=>none
def searchLS:LS AA where
 X:=Int
 pre:=fun _=>True
 args:=fun n=>[.val (.slice none 0 0),.int .i64 n]
 hin:=fun _=>[]
 res:=fun _=>[.lit .i64 0,.bl false]
 hout:=fun _=>[]
def searchGet (args:List (SV AA)) (_:List (SO AA)):Option Int:=match args with
 | [.val (.slice none 0 0),n]=>asI n
 | _=>none
def searchAnn (_:Int):Anns AA:=fun _ _ _=>some {
 X:=Unit
 inv:=fun _=>True
 meas:=fun _=>0
 slots:=fun _=>[(7,.lit .i64 0),(8,.lit .i64 0)]
 heap:=fun _=>[] }
noncomputable def L228:List (Nat×SpecT AA):=(42,tLent searchLS searchGet)::L227
noncomputable def F227:Eng AA:=EF prog L227
theorem F227_eq:F227=EF prog L227:=by
 unfold F227
 rfl
def insertLS:LS AA where
 X:=List Int
 pre:=fun xs=>1≤xs.length∧xs.length≤1000000
 args:=fun xs=>[.val (.slice none 0 0),.lit .i64 0,.rints .i64 xs]
 hin:=fun _=>[]
 res:=fun _=>[.vec 0]
 hout:=fun xs=>[.ivec 3 .i64 xs]
def insertGet (args:List (SV AA)) (sh:List (SO AA)):Option (List Int):=match args with
 | [.val (.slice none 0 0),_,v]=>gI .i64 sh v
 | _=>none
noncomputable def L229:List (Nat×SpecT AA):=(43,tLent insertLS insertGet)::L228
noncomputable def F228:Eng AA:=EF prog L228
theorem F228_eq:F228=EF prog L228:=by
 unfold F228
 rfl
noncomputable def F229:Eng AA:=EF prog L229
theorem F229_eq:F229=EF prog L229:=by
 unfold F229
 rfl
noncomputable def L230:List (Nat×SpecT AA):=(21,tLent signLS signGet)::L229
noncomputable def F230:Eng AA:=EF prog L230
theorem F230_eq:F230=EF prog L230:=by
 unfold F230
 rfl
end Go.Proofs.YthkffadomgcdaaaGreatDoor

/-! A ledger, a book of signatures: the walks. Conditions: none. -/
namespace Go.Proofs.YthkffadomgcdaaaGreatDoor
open Go Go.Eng Go.Proofs.Tryz
theorem n6_body:f15.body=some (bodyOf f15):=by kernel_rfl
theorem n6_name : (f15.name == "runtime.NumGoroutine") = false := by kernel_rfl
theorem known220:Known prog L220:=by
 unfold L220
 exact num_known known93 func15 n6_name n6_body num6_nil num6_errno
theorem or_at:ttOf L52 55=tLent orLS orGet:=by
 unfold L52
 rfl
theorem known221:Known prog L221:=by
 unfold L221
 exact known52.over _ _ or_at known220
def lheightVC:Prop:=∀ (x:Int),True→(decide (x≥(0:Int))=true→heightB x=decide (x≤(1099511627776:Int))∧True∧True)∧(decide (x≥(0:Int))=false →
 heightB x=false∧True∧True)
theorem lheight_eq:lheightVC=fnS F221 f37 (bodyOf f37) heightLS noAnn:=by kernel_rfl
theorem lheight_vc:lheightVC:=by
 intro x _
 unfold heightB
 refine ⟨fun h=>⟨?_,trivial,trivial⟩,fun h=>⟨?_,trivial,trivial⟩⟩<;>rw [h]<;>rfl
theorem lheight_ok:Fits F221 f37 (bodyOf f37) heightLS noAnn:=by
 constructor
 rw [← lheight_eq]
 exact lheight_vc
theorem lheight_has:Has prog 37 f37 (bodyOf f37):=⟨by kernel_rfl,by kernel_rfl,by kernel_rfl⟩
theorem known222:Known prog L222:=by
 unfold L222
 exact known221.lent mixed lheight_has F221_eq lheight_ok (fun _ _=>Nat.zero_le _) (fun _ _=>rfl)
def lownVC:Prop:=∀ (x:TOut),(weight x.cond).le (300:Nat)→((x.cond=x.cond∧True)∧([]:List Br)=[]∧True)∧True∧(OrX.mk x.cond []).Ok∧(x.amount =
 x.amount∧x.cond=x.cond++[]∧True)∧True∧True
theorem lown_eq:lownVC=fnS F222 f27 (bodyOf f27) lownLS noAnn:=by kernel_rfl
theorem lown_vc:lownVC:=by
 intro x hx
 exact ⟨⟨⟨rfl,trivial⟩,rfl,trivial⟩,trivial,⟨hx,by simp [weight,sumK]⟩,⟨rfl,(List.append_nil _).symm,trivial⟩,trivial,trivial⟩
theorem lown_ok:Fits F222 f27 (bodyOf f27) lownLS noAnn:=by
 constructor
 rw [← lown_eq]
 exact lown_vc
theorem lown_has:Has prog 27 f27 (bodyOf f27):=⟨by kernel_rfl,by kernel_rfl,by kernel_rfl⟩
theorem known223:Known prog L223:=by
 unfold L223
 exact known222.lent mixed lown_has F222_eq lown_ok (fun _ _=>Nat.zero_le _) (fun _ _=>rfl)
def lnewVC:Prop:=∀ (_:Unit),True→True∧True∧(True∧(0:Int)=(0:Int)∧True)∧([]:List (Pt×EntD))=[]∧True
theorem lnew_eq:lnewVC=fnS F223 f17 (bodyOf f17) lnewLS noAnn:=by kernel_rfl
theorem lnew_vc:lnewVC:=by
 intro _ _
 exact ⟨trivial,trivial,⟨trivial,rfl,trivial⟩,rfl,trivial⟩
theorem lnew_ok:Fits F223 f17 (bodyOf f17) lnewLS noAnn:=by
 constructor
 rw [← lnew_eq]
 exact lnew_vc
theorem lnew_has:Has prog 17 f17 (bodyOf f17):=⟨by kernel_rfl,by kernel_rfl,by kernel_rfl⟩
theorem known224:Known prog L224:=by
 unfold L224
 exact known223.lent mixed lnew_has F223_eq lnew_ok (fun _ _=>Nat.zero_le _) (fun _ _=>rfl)
def bnewVC:Prop:=∀ (_:Unit),True→True∧True∧(True∧(SV.val (A:=AA) (Value.slice none (0:Nat) (0:Nat)):SV AA)=SV.val (A:=AA) (Value.slice none (0:Nat) (0:Nat))∧(SV.val (A:=AA) (Value.slice none (0:Nat) (0:Nat)):SV AA)=SV.val (A:=AA) (Value.slice none (0:Nat) (0:Nat))∧(SV.val (A:=AA) (Value.slice none (0:Nat) (0:Nat)):SV AA)=SV.val (A:=AA) (Value.slice none (0:Nat) (0:Nat))∧(SV.val (A:=AA) (Value.slice none (0:Nat) (0:Nat)):SV AA)=SV.val (A:=AA) (Value.slice none (0:Nat) (0:Nat))∧(SV.val (A:=AA) (Value.slice none (0:Nat) (0:Nat)):SV AA)=SV.val (A:=AA) (Value.slice none (0:Nat) (0:Nat))∧(SV.val (A:=AA) (Value.slice none (0:Nat) (0:Nat)):SV AA)=SV.val (A:=AA) (Value.slice none (0:Nat) (0:Nat))∧(SV.val (A:=AA) (Value.slice none (0:Nat) (0:Nat)):SV AA)=SV.val (A:=AA) (Value.slice none (0:Nat) (0:Nat))∧(SV.val (A:=AA) (Value.slice none (0:Nat) (0:Nat)):SV AA)=SV.val (A:=AA) (Value.slice none (0:Nat) (0:Nat))∧(SV.val (A:=AA) (Value.slice none (0:Nat) (0:Nat)):SV AA)=SV.val (A:=AA) (Value.slice none (0:Nat) (0:Nat))∧(SV.val (A:=AA) (Value.slice none (0:Nat) (0:Nat)):SV AA)=SV.val (A:=AA) (Value.slice none (0:Nat) (0:Nat))∧(SV.val (A:=AA) (Value.slice none (0:Nat) (0:Nat)):SV AA)=SV.val (A:=AA) (Value.slice none (0:Nat) (0:Nat))∧(SV.val (A:=AA) (Value.slice none (0:Nat) (0:Nat)):SV AA)=SV.val (A:=AA) (Value.slice none (0:Nat) (0:Nat))∧(SV.val (A:=AA) (Value.slice none (0:Nat) (0:Nat)):SV AA)=SV.val (A:=AA) (Value.slice none (0:Nat) (0:Nat))∧(SV.val (A:=AA) (Value.slice none (0:Nat) (0:Nat)):SV AA)=SV.val (A:=AA) (Value.slice none (0:Nat) (0:Nat))∧(SV.val (A:=AA) (Value.slice none (0:Nat) (0:Nat)):SV AA)=SV.val (A:=AA) (Value.slice none (0:Nat) (0:Nat))∧(SV.val (A:=AA) (Value.slice none (0:Nat) (0:Nat)):SV AA)=SV.val (A:=AA) (Value.slice none (0:Nat) (0:Nat))∧True)∧([]:List (List Int×List Int))=[]∧True 
theorem bnew_eq:bnewVC=fnS F224 f18 (bodyOf f18) bnewLS noAnn:=by kernel_rfl
theorem bnew_vc:bnewVC:=by
 intro _ _
 exact ⟨trivial,trivial,⟨trivial,rfl,rfl,rfl,rfl,rfl,rfl,rfl,rfl,rfl,rfl,rfl,rfl,rfl,rfl,rfl,rfl,trivial⟩,rfl,trivial⟩
theorem bnew_ok:Fits F224 f18 (bodyOf f18) bnewLS noAnn:=by
 constructor
 rw [← bnew_eq]
 exact bnew_vc
theorem bnew_has:Has prog 18 f18 (bodyOf f18):=⟨by kernel_rfl,by kernel_rfl,by kernel_rfl⟩
theorem known225:Known prog L225:=by
 unfold L225
 exact known224.lent mixed bnew_has F224_eq bnew_ok (fun _ _=>Nat.zero_le _) (fun _ _=>rfl)
def ltotalVC:Prop:=∀ (x:LgX),True→x.total=x.total∧((True∧x.total=x.total∧True)∧x.es=x.es∧True)∧True
theorem ltotal_eq:ltotalVC=fnS F225 f10 (bodyOf f10) ltotalLS noAnn:=by kernel_rfl
theorem ltotal_vc:ltotalVC:=by
 intro _ _
 exact ⟨rfl,⟨⟨trivial,rfl,trivial⟩,rfl,trivial⟩,trivial⟩
theorem ltotal_ok:Fits F225 f10 (bodyOf f10) ltotalLS noAnn:=by
 constructor
 rw [← ltotal_eq]
 exact ltotal_vc
theorem ltotal_has:Has prog 10 f10 (bodyOf f10):=⟨by kernel_rfl,by kernel_rfl,by kernel_rfl⟩
theorem known226:Known prog L226:=by
 unfold L226
 exact known225.lent mixed ltotal_has F225_eq ltotal_ok (fun _ _=>Nat.le_refl _) (fun h=>by cases h)
theorem check_one {o:TOut} (h:outE o≠0):checkT ⟨0,[zIn],[o]⟩≠0:=by
 have he:outsE [o]≠0:=by
  simp only [outsE]
  rw [if_neg h]
  exact h
 unfold checkT
 split
 ·omega
 split
 ·omega
 ·simp only [ne_eq,he,not_false_eq_true]
theorem both {p:Prop} (h:p):p∧p:=⟨h,h⟩
def lmintVC:Prop:=∀ (x:MintX),x.Ok→x.h=x.h∧True∧True∧((!heightB x.h)=true→(mintE x=(4:Int)∧(4:Int)≠(0:Int))∧((True∧(mintL x).total =
 x.l.total∧True)∧(mintL x).es=x.l.es∧True)∧True)∧((!heightB x.h)=false→(List.replicate (32:Nat) (0:Int)=List.replicate (32:Nat)
 (0:Int)∧(0:Int)=(0:Int)∧(0:Int)=(0:Int)∧([]:List Int)=[]∧True)∧(x.o.amount=x.o.amount∧x.o.cond=x.o.cond∧True)∧((0
 : Int)=(0:Int)∧[TIn.mk (List.replicate (32:Nat) (0:Int)) (0:Int) (0:Int) []]=[TIn.mk (List.replicate (32:Nat) (0:Int)) (0:Int) (0
 : Int) []]∧[x.o]=[x.o]∧True)∧True∧True∧((!checkT (TxD.mk (0:Int) [TIn.mk (List.replicate (32:Nat) (0:Int)) (0:Int) (0:Int) []]
 [x.o])==(0:Int))=true→mintE x=checkT (TxD.mk (0:Int) [TIn.mk (List.replicate (32:Nat) (0:Int)) (0:Int) (0:Int) []] [x.o])∧((True
 ∧ (mintL x).total=x.l.total∧True)∧(mintL x).es=x.l.es∧True)∧True)∧((!checkT (TxD.mk (0:Int) [TIn.mk (List.replicate (32:Nat) (0 :
 Int)) (0:Int) (0:Int) []] [x.o])==(0:Int))=false→(∀ (st:List Int),st.Nodup→st.length=x.l.es.length→(x.p.tx=x.p.tx∧x.p.n =
 x.p.n∧True)∧(∀ (j:Nat) (z:AA (99:Nat)),mfind (Pt.mk x.p.tx x.p.n) x.l.es=some (j,z)→(mintE x=(9:Int)∧(9:Int)≠(0:Int)) ∧
 ((True∧(mintL x).total=x.l.total∧True)∧(mintL x).es=x.l.es∧True)∧True)∧(mfind (Pt.mk x.p.tx x.p.n) x.l.es=none→inI64
 ((1125899906842624:Int)-x.l.total)∧(decide (x.o.amount>(1125899906842624:Int)-x.l.total)=true→(mintE x=(5:Int)∧(5:Int)≠(0 :
 Int))∧((True∧(mintL x).total=x.l.total∧True)∧(mintL x).es=x.l.es∧True)∧True)∧(decide (x.o.amount>(1125899906842624:Int) -
 x.l.total)=false→(x.o.amount=x.o.amount∧x.o.cond=x.o.cond∧True)∧True∧(weight x.o.cond).le (300:Nat)∧(x.p.tx=x.p.tx∧x.p.n =
 x.p.n∧True)∧(x.o.amount=x.o.amount∧x.o.cond=x.o.cond∧x.h=x.h∧True)∧(∀ (j:Nat) (z0:AA (99:Nat)),mfind (Pt.mk x.p.tx x.p.n)
 x.l.es=some (j,z0)→inI64 (x.l.total+x.o.amount)∧mintE x=(0:Int)∧((True∧(mintL x).total=x.l.total+x.o.amount∧True)∧(mintL x).es
 = x.l.es.set j (Pt.mk x.p.tx x.p.n,EntD.mk x.o.amount x.o.cond x.h)∧True)∧True)∧(mfind (Pt.mk x.p.tx x.p.n) x.l.es=none→∀ (_:Int),inI64
 (x.l.total+x.o.amount)∧mintE x=(0:Int)∧((True∧(mintL x).total=x.l.total+x.o.amount∧True)∧(mintL x).es=x.l.es++[(Pt.mk x.p.tx
 x.p.n,EntD.mk x.o.amount x.o.cond x.h)]∧True)∧True))))∧∀ (st:List Int),st.Nodup→st.length=x.l.es.length→(x.p.tx=x.p.tx∧x.p.n =
 x.p.n∧True)∧(∀ (j:Nat) (z:AA (99:Nat)),mfind (Pt.mk x.p.tx x.p.n) x.l.es=some (j,z)→(mintE x=(9:Int)∧(9:Int)≠(0:Int)) ∧
 ((True∧(mintL x).total=x.l.total∧True)∧(mintL x).es=x.l.es∧True)∧True)∧(mfind (Pt.mk x.p.tx x.p.n) x.l.es=none→inI64
 ((1125899906842624:Int)-x.l.total)∧(decide (x.o.amount>(1125899906842624:Int)-x.l.total)=true→(mintE x=(5:Int)∧(5:Int)≠(0 :
 Int))∧((True∧(mintL x).total=x.l.total∧True)∧(mintL x).es=x.l.es∧True)∧True)∧(decide (x.o.amount>(1125899906842624:Int) -
 x.l.total)=false→(x.o.amount=x.o.amount∧x.o.cond=x.o.cond∧True)∧True∧(weight x.o.cond).le (300:Nat)∧(x.p.tx=x.p.tx∧x.p.n =
 x.p.n∧True)∧(x.o.amount=x.o.amount∧x.o.cond=x.o.cond∧x.h=x.h∧True)∧(∀ (j:Nat) (z0:AA (99:Nat)),mfind (Pt.mk x.p.tx x.p.n)
 x.l.es=some (j,z0)→inI64 (x.l.total+x.o.amount)∧mintE x=(0:Int)∧((True∧(mintL x).total=x.l.total+x.o.amount∧True)∧(mintL x).es
 = x.l.es.set j (Pt.mk x.p.tx x.p.n,EntD.mk x.o.amount x.o.cond x.h)∧True)∧True)∧(mfind (Pt.mk x.p.tx x.p.n) x.l.es=none→∀ (_:Int),inI64
 (x.l.total+x.o.amount)∧mintE x=(0:Int)∧((True∧(mintL x).total=x.l.total+x.o.amount∧True)∧(mintL x).es=x.l.es++[(Pt.mk x.p.tx
 x.p.n,EntD.mk x.o.amount x.o.cond x.h)]∧True)∧True)))))
theorem lmint_eq:lmintVC=fnS F226 f19 (bodyOf f19) mintLS noAnn:=by kernel_rfl
theorem lmint_vc:lmintVC:=by
 intro x hx
 have hw:=hx.w
 have h1:=hx.lo
 have h2:=hx.hi
 have hm:∀ e:Int,e≠0→mintE x=e→((mintE x=e∧e≠0)∧((True∧(mintL x).total=x.l.total∧True)∧(mintL x).es=x.l.es∧True)∧True):=fun e he h=>by
  have hl:mintL x=x.l:=by
   unfold mintL
   rw [if_neg (by rw [h]; exact he)]
  rw [hl]
  exact ⟨⟨h,he⟩,⟨⟨trivial,rfl,trivial⟩,rfl,trivial⟩,trivial⟩
 have hp:Pt.mk x.p.tx x.p.n=x.p:=rfl
 have hz:TIn.mk (List.replicate (32:Nat) (0:Int)) (0:Int) (0:Int) []=zIn:=rfl
 rw [hp,hz]
 refine ⟨rfl,trivial,trivial,fun h=>hm 4 (by omega) ?_,fun h=>⟨⟨rfl,rfl,rfl,rfl,trivial⟩,⟨rfl,rfl,trivial⟩,⟨rfl,rfl,rfl,trivial⟩,trivial,trivial,fun h3=>?_,fun h3=>both ?_⟩⟩
 ·unfold mintE
  rw [if_pos (by simpa using h)]
 ·have h3':checkT ⟨0,[zIn],[x.o]⟩≠0:=by simpa using h3
  have e:mintE x=checkT ⟨0,[zIn],[x.o]⟩:=by
   unfold mintE
   rw [if_neg (by simpa using h),if_pos h3']
  exact ⟨e,(hm _ h3' e).2⟩
 have h':¬heightB x.h=false:=by simpa using h
 have h3':¬checkT ⟨0,[zIn],[x.o]⟩≠0:=by simpa using h3
 intro st _ _
 refine ⟨⟨rfl,rfl,trivial⟩,fun j z hf=>hm 9 (by omega) ?_,fun hf=>⟨by unfold inI64; omega,fun h4=>hm 5 (by omega) ?_,fun h4=>⟨⟨rfl,rfl,trivial⟩,trivial,hw,⟨rfl,rfl,trivial⟩,⟨rfl,rfl,rfl,trivial⟩,fun j z0 hg=>?_,fun _ b=>?_⟩⟩⟩
 ·unfold mintE
  rw [if_neg h',if_neg h3',if_pos (by rw [hf]; rfl)]
 ·unfold mintE
  rw [if_neg h',if_neg h3',if_neg (by rw [hf]; simp),if_pos (of_decide_eq_true h4)]
 ·rw [hf] at hg
  cases hg
 ·have h4':¬x.o.amount>1125899906842624-x.l.total:=of_decide_eq_false h4
  have e:mintE x=0:=by
   unfold mintE
   rw [if_neg h',if_neg h3',if_neg (by rw [hf]; simp),if_neg h4']
  have hl:mintL x=⟨x.l.es++[(x.p,⟨x.o.amount,x.o.cond,x.h⟩)],x.l.total+x.o.amount⟩:=by
   unfold mintL
   rw [if_pos e]
  have ha:10≤x.o.amount:=by
   have hc:checkT ⟨0,[zIn],[x.o]⟩=0:=Classical.not_not.1 h3'
   refine Classical.byContradiction fun hn=>check_one (o:=x.o) ?_ hc
   unfold outE
   rw [if_pos (by omega)]
   omega
  rw [hl,e]
  exact ⟨by unfold inI64; omega,rfl,⟨⟨trivial,rfl,trivial⟩,rfl,trivial⟩,trivial⟩
theorem lmint_ok:Fits F226 f19 (bodyOf f19) mintLS noAnn:=by
 constructor
 rw [← lmint_eq]
 exact lmint_vc
theorem lmint_has:Has prog 19 f19 (bodyOf f19):=⟨by kernel_rfl,by kernel_rfl,by kernel_rfl⟩
theorem known227:Known prog L227:=by
 unfold L227
 exact known226.lent mixed lmint_has F226_eq lmint_ok (fun _ _=>Nat.le_refl _) (fun h=>by cases h)
def bsearchVC:Prop:=∀ (_:Int),True→(∃ (_:Unit),True∧((0:Int)=(0:Int)∧(0:Int)=(0:Int))∧True∧True)∧∀ (_:Unit),True→((0:Int)=(0:Int)∧false =
 false)∧True∧True
theorem bsearch_eq:bsearchVC=fnS F227 f42 (bodyOf f42) searchLS searchAnn:=by kernel_rfl
theorem bsearch_vc:bsearchVC:=by
 intro _ _
 exact ⟨⟨(),trivial,⟨rfl,rfl⟩,trivial,trivial⟩,fun _ _=>⟨⟨rfl,rfl⟩,trivial,trivial⟩⟩
theorem bsearch_ok:Fits F227 f42 (bodyOf f42) searchLS searchAnn:=by
 constructor
 rw [← bsearch_eq]
 exact bsearch_vc
theorem bsearch_has:Has prog 42 f42 (bodyOf f42):=⟨by kernel_rfl,by kernel_rfl,by kernel_rfl⟩
theorem known228:Known prog L228:=by
 unfold L228
 exact known227.lent mixed bsearch_has F227_eq bsearch_ok (fun _ _=>Nat.zero_le _) (fun _ _=>rfl)
def binsertVC:Prop:=∀ (x:List Int),(1:Nat)≤x.length∧x.length≤(1000000:Nat)→(x.length:Int)≤(9223372036854775807:Int)→(((x.length:Int)==(0 :
 Int))=true→(SV.val (A:=AA) (Value.slice none (0:Nat) (0:Nat)):SV AA)=SV.val (A:=AA) (Value.slice none (0:Nat) (0:Nat))∧True∧x =
 []∧True)∧(((x.length:Int)==(0:Int))=false→x.length*(8:Nat)≤(140737488355328:Nat)∧x.length≤(1152921504606846976:Nat)∧True
 ∧ True∧x=x∧True)
theorem binsert_eq:binsertVC=fnS F228 f43 (bodyOf f43) insertLS noAnn:=by kernel_rfl
theorem binsert_vc:binsertVC:=by
 intro x hx _
 refine ⟨fun h=>?_,fun _=>⟨by omega,by omega,trivial,trivial,rfl,trivial⟩⟩
 have:(x.length:Int)=0:=by simpa using h
 omega
theorem binsert_ok:Fits F228 f43 (bodyOf f43) insertLS noAnn:=by
 constructor
 rw [← binsert_eq]
 exact binsert_vc
theorem binsert_has:Has prog 43 f43 (bodyOf f43):=⟨by kernel_rfl,by kernel_rfl,by kernel_rfl⟩
theorem known229:Known prog L229:=by
 unfold L229
 exact known228.lent mixed binsert_has F228_eq binsert_ok (fun _ _=>Nat.zero_le _) (fun _ _=>rfl)
def bsignVC:Prop:=∀ (x:SignX),x.Ok→∀ (st:List Int),st.Nodup→st.length=x.es.length→(x.h=x.h∧True)∧(∀ (j:Nat) (z:AA (33:Nat)),mfind x.h x.es =
 some (j,z)→False)∧(mfind x.h x.es=none→((SV.val (A:=AA) (Value.slice none (0:Nat) (0:Nat)):SV AA)=SV.val (A:=AA) (Value.slice none
 (0:Nat) (0:Nat))∧(1:Int)=(1:Int))∧True∧True∧((x.h=x.h∧True)∧(∀ (j:Nat) (z:AA (33:Nat)),mfind x.h x.es=some (j,z) →
 False)∧(mfind x.h x.es=none→((SV.val (A:=AA) (Value.slice none (0:Nat) (0:Nat)):SV AA)=SV.val (A:=AA) (Value.slice none (0:Nat) (0
 : Nat))∧(0:Int)=(0:Int)∧[(1:Int)]=[(1:Int)])∧True∧((1:Nat)≤[(1:Int)].length∧[(1:Int)].length≤(1000000:Nat))∧(x.h =
 x.h∧True)∧([(1:Int)]=[(1:Int)]∧True)∧(∀ (j:Nat) (z0:AA (33:Nat)),mfind x.h x.es=some (j,z0)→(x.h=x.h∧True)∧[x.h].length
 * (32:Nat)≤(140737488355328:Nat)∧[x.h].length≤(1152921504606846976:Nat)∧(0:Int)=(0:Int)∧((True∧True∧True∧True∧True∧True
 ∧ True∧True∧True∧True∧True∧True∧True∧True∧True∧True∧True∧True)∧x.es++[(x.h,[(1:Int)])]=x.es.set j (x.h,[(1:Int)]) ∧
 True)∧True)∧(mfind x.h x.es=none→∀ (_:Int),(x.h=x.h∧True)∧[x.h].length*(32:Nat)≤(140737488355328:Nat)∧[x.h].length ≤
 (1152921504606846976:Nat)∧(0:Int)=(0:Int)∧((True∧True∧True∧True∧True∧True∧True∧True∧True∧True∧True∧True∧True∧True
 ∧ True∧True∧True∧True)∧x.es++[(x.h,[(1:Int)])]=x.es++[(x.h,[(1:Int)])]∧True)∧True)))∧(x.h=x.h∧True)∧(∀ (j:Nat) (z :
 AA (33:Nat)),mfind x.h x.es=some (j,z)→False)∧(mfind x.h x.es=none→((SV.val (A:=AA) (Value.slice none (0:Nat) (0:Nat)):SV AA) =
 SV.val (A:=AA) (Value.slice none (0:Nat) (0:Nat))∧(0:Int)=(0:Int)∧[(1:Int)]=[(1:Int)])∧True∧((1:Nat)≤[(1:Int)].length ∧
 [(1:Int)].length≤(1000000:Nat))∧(x.h=x.h∧True)∧([(1:Int)]=[(1:Int)]∧True)∧(∀ (j:Nat) (z0:AA (33:Nat)),mfind x.h x.es =
 some (j,z0)→(x.h=x.h∧True)∧[x.h].length*(32:Nat)≤(140737488355328:Nat)∧[x.h].length≤(1152921504606846976:Nat)∧(0:Int)=(0 :
 Int)∧((True∧True∧True∧True∧True∧True∧True∧True∧True∧True∧True∧True∧True∧True∧True∧True∧True∧True)∧x.es++[(x.h,
 [(1:Int)])]=x.es.set j (x.h,[(1:Int)])∧True)∧True)∧(mfind x.h x.es=none→∀ (_:Int),(x.h=x.h∧True)∧[x.h].length*(32:Nat) ≤
 (140737488355328:Nat)∧[x.h].length≤(1152921504606846976:Nat)∧(0:Int)=(0:Int)∧((True∧True∧True∧True∧True∧True∧True∧True
 ∧ True∧True∧True∧True∧True∧True∧True∧True∧True∧True)∧x.es++[(x.h,[(1:Int)])]=x.es++[(x.h,[(1:Int)])]∧True)∧True)))
theorem bsign_eq:bsignVC=fnS F229 f21 (bodyOf f21) signLS noAnn:=by kernel_rfl
theorem bsign_vc:bsignVC:=by
 intro x hx st _ _
 have hn:=hx.new
 simp [hn]
theorem bsign_ok:Fits F229 f21 (bodyOf f21) signLS noAnn:=by
 constructor
 rw [← bsign_eq]
 exact bsign_vc
theorem bsign_has:Has prog 21 f21 (bodyOf f21):=⟨by kernel_rfl,by kernel_rfl,by kernel_rfl⟩
theorem known230:Known prog L230:=by
 unfold L230
 exact known229.lent mixed bsign_has F229_eq bsign_ok (fun _ _=>Nat.le_refl _) (fun h=>by cases h)
end Go.Proofs.YthkffadomgcdaaaGreatDoor

/-! A ledger's check, what it does; what a party alone can spend: what is said of them. Conditions: none. -/
namespace Go.Proofs.YthkffadomgcdaaaGreatDoor
open Go Go.Eng Go.Proofs.Tryz
noncomputable def signedOf (es:List (List Int×List Int)) (h:List Int):List Int:=match mfind h es with
 | some p=>p.2
 | none=>[]
structure WhoX where
 es:List (List Int×List Int)
 h:List Int
structure WhoX.Ok (x:WhoX):Prop where
 few:∀ j z,mfind x.h x.es=some (j,z)→z.length≤1000000
noncomputable def whoLS (z:SV AA):LS AA where
 X:=WhoX
 pre:=WhoX.Ok
 args:=fun x=>[.ptr 0 0,hashV x.h]
 hin:=fun x=>[bkSO 1 z,bkM x.es]
 res:=fun _=>[.vec 2]
 hout:=fun x=>[bkSO 1 z,bkM x.es,.ivec 3 .i64 (signedOf x.es x.h)]
def whoGet (args:List (SV AA)) (sh:List (SO AA)):Option WhoX:=match args with
 | [b,h]=>match bkG sh b,hashG h with
  | some es,some h=>some ⟨es,h⟩
  | _,_=>none
 | _=>none
noncomputable def L231 (z:SV AA):List (Nat×SpecT AA):=(88,tLent (whoLS z) whoGet)::L230
noncomputable def F231 (z:SV AA):Eng AA:=EF prog (L231 z)
theorem F231_eq (z:SV AA):F231 z=EF prog (L231 z):=by
 unfold F231
 rfl
structure SpX where
 l:LgX
 t:TxD
 h:Int
 b:List (List Int×List Int)
noncomputable def spendG (es:List (Pt×EntD)) (sg:List Int) (h:Int):List TIn→Int→Int×Int
 | [],n=>(n,0)
 | x::l,n=>match mfind (Pt.mk x.tx x.n) es with
  | none=>(0,25)
  | some p=>if opensB p.2.cond x.branch ⟨sg,x.secret,h,max (h-p.2.height) 0⟩≠0 then (0,opensB p.2.cond x.branch ⟨sg,x.secret,h,max (h-p.2.height) 0⟩) else spendG es sg h l (n+p.2.amount)
noncomputable def sgOf (x:SpX):List Int:=signedOf x.b (idB x.t)
noncomputable def spendR (x:SpX):Int×Int:=spendG x.l.es (sgOf x) x.h x.t.ins 0
structure SpX.Ok (x:SpX):Prop where
 t:TxOk x.t
 sec:∀ y,y∈x.t.ins→Bytes y.secret
 es:∀ p,p∈x.l.es→(0≤p.2.amount∧p.2.amount≤1125899906842624)∧(0≤p.2.height∧p.2.height≤1099511627776)
 b:(⟨x.b,idB x.t⟩:WhoX).Ok
structure SpX.Few (x:SpX):Prop extends SpX.Ok x where
 few:x.t.ins.length≤64
 h:heightB x.h=true
noncomputable def spendLS (z:SV AA):LS AA where
 X:=SpX
 pre:=SpX.Few
 args:=fun x=>[.ptr 0 0,.agg (txSL x.t),.int .i64 x.h,.ptr 2 0]
 hin:=fun x=>[lgSO 1 x.l,lgM x.l,bkSO 3 z,bkM x.b]
 res:=fun x=>[.int .i64 (spendR x).1,.err 111 (spendR x).2]
 hout:=fun x=>[lgSO 1 x.l,lgM x.l,bkSO 3 z,bkM x.b]
def spGet (args:List (SV AA)) (sh:List (SO AA)):Option SpX:=match args with
 | [l,t,h,b]=>match lgG sh l,decTx sh t,asI h,bkG sh b with
  | some l,some t,some h,some b=>some ⟨l,t,h,b⟩
  | _,_,_,_=>none
 | _=>none
noncomputable def spendAnn (x:SpX):Anns AA:=fun _ ts _=>some {
 X:=Nat×Int
 inv:=fun y=>y.1≤x.t.ins.length∧0≤y.2∧y.2≤1125899906842624*(y.1:Int)∧spendR x=spendG x.l.es (sgOf x) x.h (x.t.ins.drop y.1) y.2
 meas:=fun y=>x.t.ins.length-y.1
 slots:=fun y=>[(25,.int .i64 y.1),(10,.int .i64 y.2),(11,.rints .i64 (sgOf x))]
 heap:=fun _=>match nth ts 11 with
  | some v=>deadOf v
  | none=>[] }
noncomputable def L232 (z:SV AA):List (Nat×SpecT AA):=(47,tLent (spendLS z) spGet)::L231 z
noncomputable def F232 (z:SV AA):Eng AA:=EF prog (L232 z)
theorem F232_eq (z:SV AA):F232 z=EF prog (L232 z):=by
 unfold F232
 rfl
noncomputable def anyAt (es:List (Pt×EntD)) (id:List Int) (n:Nat):Bool:=decide (∃ i,i<n∧mfind (Pt.mk id (i:Nat)) es≠none)
noncomputable def checkF (x:SpX):Int×Int:=if heightB x.h=false then (0,4) else if checkT x.t≠0 then (0,checkT x.t) else if x.t.lock>x.h then (0,23) else if (spendR x).2≠0 then (0,(spendR x).2)
 else if (totG x.t.outs 0).2≠0 then (0,(totG x.t.outs 0).2) else if (totG x.t.outs 0).1>(spendR x).1 then (0,20) else if anyAt x.l.es (idB x.t) x.t.outs.length=true then (0,9) else ((spendR x).1-(totG x.t.outs 0).1,0)
noncomputable def lcheckLS (z:SV AA):LS AA where
 X:=SpX
 pre:=SpX.Ok
 args:=fun x=>[.ptr 0 0,.agg (txSL x.t),.int .i64 x.h,.ptr 2 0]
 hin:=fun x=>[lgSO 1 x.l,lgM x.l,bkSO 3 z,bkM x.b]
 res:=fun x=>[.int .i64 (checkF x).1,.err 111 (checkF x).2]
 hout:=fun x=>[lgSO 1 x.l,lgM x.l,bkSO 3 z,bkM x.b]
noncomputable def lcheckAnn (x:SpX):Anns AA:=fun _ _ _=>some {
 X:=Nat
 inv:=fun i=>i≤x.t.outs.length∧∀ j,j<i→mfind (Pt.mk (idB x.t) (j:Nat)) x.l.es=none
 meas:=fun i=>x.t.outs.length-i
 slots:=fun i=>[(64,.int .i64 i)]
 heap:=fun _=>[] }
noncomputable def L233 (z:SV AA):List (Nat×SpecT AA):=(23,tLent (lcheckLS z) spGet)::L232 z
noncomputable def F233 (z:SV AA):Eng AA:=EF prog (L233 z)
theorem F233_eq (z:SV AA):F233 z=EF prog (L233 z):=by
 unfold F233
 rfl
end Go.Proofs.YthkffadomgcdaaaGreatDoor

/-! A ledger's check: the walks. Conditions: none. -/
namespace Go.Proofs.YthkffadomgcdaaaGreatDoor
open Go Go.Eng Go.Proofs.Tryz
def bk16 (Q:Prop):Prop:=True∧Q∧Q∧Q∧Q∧Q∧Q∧Q∧Q∧Q∧Q∧Q∧Q∧Q∧Q∧Q∧Q∧True
theorem bk16_ok {Q:Prop} (h:Q):bk16 Q:=⟨trivial,h,h,h,h,h,h,h,h,h,h,h,h,h,h,h,h,trivial⟩
def bnilP:Prop:=(SV.val (A:=AA) (Value.slice none (0:Nat) (0:Nat)):SV AA)=SV.val (A:=AA) (Value.slice none (0:Nat) (0:Nat))
theorem bnilP_ok:bnilP:=rfl
theorem mfind_mem {K V:Type} {k:K}:∀ {l:List (K×V)} {j:Nat} {z:V},mfind k l=some (j,z)→(k,z)∈l
 | [],_,_,h=>by simp [mfind] at h
 | p::l,j,z,h=>by
  simp only [mfind] at h
  split at h
  ·rename_i e
   cases h
   rw [← e]
   exact List.mem_cons_self
  ·split at h
   ·rename_i i v hv
    cases h
    exact List.mem_cons_of_mem _ (mfind_mem hv)
   ·cases h
def bwhoV (Q:Prop):Prop:=∀ (x:WhoX),x.Ok→∀ (st:List Int),st.Nodup→st.length=x.es.length→(x.h=x.h∧True)∧(∀ (j:Nat) (z:AA (33:Nat)),mfind x.h x.es=some (j,z)→z=z∧True∧(List.length z).le (1000000:Nat)∧True∧((bk16 Q)∧x.es=x.es∧True)∧signedOf x.es x.h=z∧True)∧(mfind x.h x.es=none→([]:List Int)=[]∧True∧([]:List Int).length.le (1000000:Nat)∧True∧((bk16 Q)∧x.es=x.es∧True)∧signedOf x.es x.h=[]∧True)
theorem bwho_eqN:bwhoV bnilP=fnS F230 f88 (bodyOf f88) (whoLS bnil) noAnn:=by kernel_rfl
theorem bwho_eqJ:bwhoV True=fnS F230 f88 (bodyOf f88) (whoLS .junk) noAnn:=by kernel_rfl
theorem bwho_vc {Q:Prop} (hQ:Q):bwhoV Q:=by
 intro x hx st _ _
 have hk:=bk16_ok hQ
 refine ⟨⟨rfl,trivial⟩,fun j z hf=>⟨rfl,trivial,hx.few j z hf,trivial,⟨hk,rfl,trivial⟩,?_,trivial⟩,fun hf=>⟨rfl,trivial,Nat.zero_le _,trivial,⟨hk,rfl,trivial⟩,?_,trivial⟩⟩
 ·unfold signedOf
  rw [hf]
 ·unfold signedOf
  rw [hf]
theorem bwho_has:Has prog 88 f88 (bodyOf f88):=⟨by kernel_rfl,by kernel_rfl,by kernel_rfl⟩
theorem known231N:Known prog (L231 bnil):=by
 unfold L231
 exact known230.lent mixed bwho_has F230_eq ⟨bwho_eqN▸bwho_vc bnilP_ok⟩ (fun _ _=>by show 2≤3; omega) (fun h=>by cases h)
theorem known231J:Known prog (L231 .junk):=by
 unfold L231
 exact known230.lent mixed bwho_has F230_eq ⟨bwho_eqJ▸bwho_vc trivial⟩ (fun _ _=>by show 2≤3; omega) (fun h=>by cases h)
def ls1 (x:SpX) (Q:Prop):Prop:=(True∧x.l.total=x.l.total∧True)∧x.l.es=x.l.es∧(bk16 Q)∧x.b=x.b∧True
def ls2 (x:SpX) (Q:Prop):Prop:=(True∧x.l.total=x.l.total∧True)∧x.l.es=x.l.es∧(bk16 Q)∧x.b=x.b∧(x.t.lock=x.t.lock∧x.t.ins=x.t.ins∧x.t.outs=x.t.outs∧True)∧True
def lspendV (Q:Prop):Prop:=∀ (x:SpX),x.Few→(x.t.lock=x.t.lock∧x.t.ins=x.t.ins∧x.t.outs=x.t.outs∧True)∧True∧TxOk x.t∧(True∧idB x.t=idB x.t∧True)∧((bk16 Q)∧x.b=x.b∧True)∧(WhoX.mk x.b (idB x.t)).Ok∧((x.t.ins.length:Int)≤(9223372036854775807:Int)→(∃ (x_1:Nat×Int),(x_1.fst≤x.t.ins.length∧(0:Int)≤x_1.snd∧x_1.snd≤(1125899906842624:Int)*(x_1.fst:Int)∧spendR x=spendG x.l.es (sgOf x) x.h (List.drop x_1.fst x.t.ins) x_1.snd)∧((x_1.fst:Int)=(0:Int)∧x_1.snd=(0:Int)∧sgOf x=signedOf x.b (idB x.t))∧(ls2 x Q)∧True)∧∀ (x_1:Nat×Int),x_1.fst≤x.t.ins.length∧(0:Int)≤x_1.snd∧x_1.snd≤(1125899906842624:Int)*(x_1.fst:Int)∧spendR x=spendG x.l.es (sgOf x) x.h (List.drop x_1.fst x.t.ins) x_1.snd→(decide ((x_1.fst:Int)<(x.t.ins.length:Int))=true→(0:Int)≤(x_1.fst:Int)∧(x_1.fst:Int)<(x.t.ins.length:Int)∧∀ (y:AA (76:Nat)),x.t.ins[(x_1.fst:Int).toNat]?=some y→(∀ (st:List Int),st.Nodup→st.length=x.l.es.length→(y.tx=y.tx∧y.n=y.n∧True)∧(∀ (j:Nat) (z:AA (99:Nat)),mfind (Pt.mk y.tx y.n) x.l.es=some (j,z)→inI64 (x.h-z.height)∧((z.cond=z.cond∧True)∧y.branch=y.branch∧sgOf x=sgOf x∧y.secret=y.secret∧x.h=x.h∧max (x.h-z.height) (0:Int)=max (x.h-z.height) (0:Int)∧True)∧True∧Bytes y.secret∧((!opensB z.cond y.branch (Sn.mk (sgOf x) y.secret x.h (max (x.h-z.height) (0:Int)))==(0:Int))=true→((spendR x).fst=(0:Int)∧(spendR x).snd=opensB z.cond y.branch (Sn.mk (sgOf x) y.secret x.h (max (x.h-z.height) (0:Int))))∧(ls1 x Q)∧True)∧((!opensB z.cond y.branch (Sn.mk (sgOf x) y.secret x.h (max (x.h-z.height) (0:Int)))==(0:Int))=false→inI64 (x_1.snd+z.amount)∧inI64 ((x_1.fst:Int)+(1:Int))∧∃ (y:Nat×Int),(y.fst≤x.t.ins.length∧(0:Int)≤y.snd∧y.snd≤(1125899906842624:Int)*(y.fst:Int)∧spendR x=spendG x.l.es (sgOf x) x.h (List.drop y.fst x.t.ins) y.snd)∧x.t.ins.length-y.fst<x.t.ins.length-x_1.fst∧((y.fst:Int)=(x_1.fst:Int)+(1:Int)∧y.snd=x_1.snd+z.amount∧sgOf x=sgOf x)∧(ls2 x Q)∧True))∧(mfind (Pt.mk y.tx y.n) x.l.es=none→((spendR x).fst=(0:Int)∧(spendR x).snd=(25:Int)∧(25:Int)≠(0:Int))∧(ls1 x Q)∧True))∧∀ (st:List Int),st.Nodup→st.length=x.l.es.length→(y.tx=y.tx∧y.n=y.n∧True)∧(∀ (j:Nat) (z:AA (99:Nat)),mfind (Pt.mk y.tx y.n) x.l.es=some (j,z)→inI64 (x.h-z.height)∧((z.cond=z.cond∧True)∧y.branch=y.branch∧sgOf x=sgOf x∧y.secret=y.secret∧x.h=x.h∧max (x.h-z.height) (0:Int)=max (x.h-z.height) (0:Int)∧True)∧True∧Bytes y.secret∧((!opensB z.cond y.branch (Sn.mk (sgOf x) y.secret x.h (max (x.h-z.height) (0:Int)))==(0:Int))=true→((spendR x).fst=(0:Int)∧(spendR x).snd=opensB z.cond y.branch (Sn.mk (sgOf x) y.secret x.h (max (x.h-z.height) (0:Int))))∧(ls1 x Q)∧True)∧((!opensB z.cond y.branch (Sn.mk (sgOf x) y.secret x.h (max (x.h-z.height) (0:Int)))==(0:Int))=false→inI64 (x_1.snd+z.amount)∧inI64 ((x_1.fst:Int)+(1:Int))∧∃ (y:Nat×Int),(y.fst≤x.t.ins.length∧(0:Int)≤y.snd∧y.snd≤(1125899906842624:Int)*(y.fst:Int)∧spendR x=spendG x.l.es (sgOf x) x.h (List.drop y.fst x.t.ins) y.snd)∧x.t.ins.length-y.fst<x.t.ins.length-x_1.fst∧((y.fst:Int)=(x_1.fst:Int)+(1:Int)∧y.snd=x_1.snd+z.amount∧sgOf x=sgOf x)∧(ls2 x Q)∧True))∧(mfind (Pt.mk y.tx y.n) x.l.es=none→((spendR x).fst=(0:Int)∧(spendR x).snd=(25:Int)∧(25:Int)≠(0:Int))∧(ls1 x Q)∧True))∧(decide ((x_1.fst:Int)<(x.t.ins.length:Int))=false→((spendR x).fst=x_1.snd∧(spendR x).snd=(0:Int))∧(ls1 x Q)∧True))
theorem lspend_eqN:lspendV bnilP=fnS (F231 bnil) f47 (bodyOf f47) (spendLS bnil) spendAnn:=by kernel_rfl
theorem lspend_eqJ:lspendV True=fnS (F231 .junk) f47 (bodyOf f47) (spendLS .junk) spendAnn:=by kernel_rfl
theorem height_of {n:Int} (h:heightB n=true):0≤n∧n≤1099511627776:=by
 unfold heightB at h
 simp only [Bool.and_eq_true,decide_eq_true_eq] at h
 exact h
theorem lspend_vc {Q:Prop} (hQ:Q):lspendV Q:=by
 intro x hx
 have hk:=bk16_ok hQ
 have s1:ls1 x Q:=⟨⟨trivial,rfl,trivial⟩,rfl,hk,rfl,trivial⟩
 have s2:ls2 x Q:=⟨⟨trivial,rfl,trivial⟩,rfl,hk,rfl,⟨rfl,rfl,rfl,trivial⟩,trivial⟩
 have hh:=height_of hx.h
 have hfew:=hx.few
 refine ⟨⟨rfl,rfl,rfl,trivial⟩,trivial,hx.t,⟨trivial,rfl,trivial⟩,⟨hk,rfl,trivial⟩,hx.b,fun _=>⟨⟨(0,0),⟨Nat.zero_le _,Int.le_refl _,by show (0:Int)≤1125899906842624*((0:Nat):Int); omega,rfl⟩,⟨rfl,rfl,rfl⟩,s2,trivial⟩,?_⟩⟩
 rintro ⟨i,n⟩ ⟨hi,hn0,hn1,hs⟩
 simp only at hi hn0 hn1 hs
 refine ⟨fun h1=>?_,fun h1=>?_⟩
 ·have h1':(i:Int)<x.t.ins.length:=of_decide_eq_true h1
  refine ⟨by simp only; omega,h1',fun y hy=>both ?_⟩
  intro st _ _
  have hy':x.t.ins[i]?=some y:=hy
  have hl:i<x.t.ins.length:=by omega
  have hd:x.t.ins.drop i=y::x.t.ins.drop (i+1):=by
   rw [List.drop_eq_getElem_cons hl]
   rw [List.getElem?_eq_getElem hl] at hy'
   cases hy'
   rfl
  rw [hd] at hs
  refine ⟨⟨rfl,rfl,trivial⟩,fun j z hf=>?_,fun hf=>?_⟩
  ·obtain ⟨⟨a1,a2⟩,g1,g2⟩:=hx.es _ (mfind_mem hf)
   simp only at a1 a2 g1 g2
   have hs2:spendR x=if opensB z.cond y.branch ⟨sgOf x,y.secret,x.h,max (x.h-z.height) 0⟩≠0 then (0,opensB z.cond y.branch ⟨sgOf x,y.secret,x.h,max (x.h-z.height) 0⟩) else spendG x.l.es (sgOf x) x.h (x.t.ins.drop (i+1)) (n+z.amount):=by
    rw [hs]
    simp only [spendG]
    rw [hf]
    rfl
   refine ⟨by unfold inI64; omega,⟨⟨rfl,trivial⟩,rfl,rfl,rfl,rfl,rfl,trivial⟩,trivial,hx.sec y (List.mem_of_getElem? hy'),fun h2=>?_,fun h2=>?_⟩
   ·have h2':opensB z.cond y.branch ⟨sgOf x,y.secret,x.h,max (x.h-z.height) 0⟩≠0:=by simpa using h2
    rw [if_pos h2'] at hs2
    rw [hs2]
    exact ⟨⟨rfl,rfl⟩,s1,trivial⟩
   ·have h2':¬opensB z.cond y.branch ⟨sgOf x,y.secret,x.h,max (x.h-z.height) 0⟩≠0:=by simpa using h2
    rw [if_neg h2'] at hs2
    exact ⟨by unfold inI64; simp only; omega,by unfold inI64; simp only; omega,(i+1,n+z.amount),⟨hl,by simp only; omega,by simp only; omega,hs2⟩,by simp only; omega,⟨by simp only; omega,rfl,rfl⟩,s2,trivial⟩
  ·have hs2:spendR x=(0,25):=by
    rw [hs]
    simp only [spendG]
    rw [hf]
   rw [hs2]
   exact ⟨⟨rfl,rfl,by omega⟩,s1,trivial⟩
 ·have h1':¬(i:Int)<x.t.ins.length:=of_decide_eq_false h1
  rw [List.drop_of_length_le (by omega)] at hs
  simp only [spendG] at hs
  rw [hs]
  exact ⟨⟨rfl,rfl⟩,s1,trivial⟩
theorem lspend_has:Has prog 47 f47 (bodyOf f47):=⟨by kernel_rfl,by kernel_rfl,by kernel_rfl⟩
theorem known232N:Known prog (L232 bnil):=by
 unfold L232
 exact known231N.lent mixed lspend_has (F231_eq _) ⟨lspend_eqN▸lspend_vc bnilP_ok⟩ (fun _ _=>Nat.le_refl _) (fun h=>by cases h)
theorem known232J:Known prog (L232 .junk):=by
 unfold L232
 exact known231J.lent mixed lspend_has (F231_eq _) ⟨lspend_eqJ▸lspend_vc trivial⟩ (fun _ _=>Nat.le_refl _) (fun h=>by cases h)
def lc1 (x:SpX) (Q:Prop):Prop:=(True∧x.l.total=x.l.total∧True)∧x.l.es=x.l.es∧(bk16 Q)∧x.b=x.b∧True
def lc2 (x:SpX) (_:Prop):Prop:=x.t.lock=x.t.lock∧x.t.ins=x.t.ins∧x.t.outs=x.t.outs∧True
def lc3 (x:SpX) (Q:Prop):Prop:=(True∧x.l.total=x.l.total∧True)∧x.l.es=x.l.es∧(bk16 Q)∧x.b=x.b∧(lc2 x Q)∧True
def lc4 (x:SpX) (_:Prop):Prop:=(checkF x).fst=(0:Int)∧(checkF x).snd=(9:Int)∧(9:Int)≠(0:Int)
def lcheckV (Q:Prop):Prop:=∀ (x:SpX),x.Ok→x.h=x.h∧True∧True∧((!heightB x.h)=true→((checkF x).fst=(0:Int)∧(checkF x).snd=(4:Int)∧(4:Int)≠(0:Int))∧(lc1 x Q)∧True)∧((!heightB x.h)=false→(lc2 x Q)∧True∧True∧((!checkT x.t==(0:Int))=true→((checkF x).fst=(0:Int)∧(checkF x).snd=checkT x.t)∧(lc1 x Q)∧True)∧((!checkT x.t==(0:Int))=false→(decide (x.t.lock>x.h)=true→((checkF x).fst=(0:Int)∧(checkF x).snd=(23:Int)∧(23:Int)≠(0:Int))∧(lc1 x Q)∧True)∧(decide (x.t.lock>x.h)=false→(True∧(lc2 x Q)∧x.h=x.h∧True)∧(lc1 x Q)∧x.Few∧((!(spendR x).snd==(0:Int))=true→((checkF x).fst=(0:Int)∧(checkF x).snd=(spendR x).snd)∧(lc1 x Q)∧True)∧((!(spendR x).snd==(0:Int))=false→(lc2 x Q)∧True∧True∧((!(totG x.t.outs (0:Int)).snd==(0:Int))=true→((checkF x).fst=(0:Int)∧(checkF x).snd=(totG x.t.outs (0:Int)).snd)∧(lc1 x Q)∧True)∧((!(totG x.t.outs (0:Int)).snd==(0:Int))=false→(decide ((totG x.t.outs (0:Int)).fst>(spendR x).fst)=true→((checkF x).fst=(0:Int)∧(checkF x).snd=(20:Int)∧(20:Int)≠(0:Int))∧(lc1 x Q)∧True)∧(decide ((totG x.t.outs (0:Int)).fst>(spendR x).fst)=false→(x.t.outs.length:Int)≤(9223372036854775807:Int)→(∃ (x_1:Nat),(x_1≤x.t.outs.length∧∀ (j:Nat),j<x_1→mfind (Pt.mk (idB x.t) (j:Int)) x.l.es=none)∧(x_1:Int)=(0:Int)∧(lc3 x Q)∧True)∧∀ (x_1:Nat),(x_1≤x.t.outs.length∧∀ (j:Nat),j<x_1→mfind (Pt.mk (idB x.t) (j:Int)) x.l.es=none)→(decide ((x_1:Int)<(x.t.outs.length:Int))=true→(((lc2 x Q)∧(x_1:Int)=(x_1:Int))∧True∧TxOk x.t∧(∀ (st:List Int),st.Nodup→st.length=x.l.es.length→(idB x.t=idB x.t∧(x_1:Int)=(x_1:Int)∧True)∧(∀ (j:Nat) (z:AA (99:Nat)),mfind (Pt.mk (idB x.t) (x_1:Int)) x.l.es=some (j,z)→(lc4 x Q)∧(lc1 x Q)∧True)∧(mfind (Pt.mk (idB x.t) (x_1:Int)) x.l.es=none→inI64 ((x_1:Int)+(1:Int))∧∃ (y:Nat),(y≤x.t.outs.length∧∀ (j:Nat),j<y→mfind (Pt.mk (idB x.t) (j:Int)) x.l.es=none)∧x.t.outs.length-y<x.t.outs.length-x_1∧(y:Int)=(x_1:Int)+(1:Int)∧(lc3 x Q)∧True))∧∀ (st:List Int),st.Nodup→st.length=x.l.es.length→(idB x.t=idB x.t∧(x_1:Int)=(x_1:Int)∧True)∧(∀ (j:Nat) (z:AA (99:Nat)),mfind (Pt.mk (idB x.t) (x_1:Int)) x.l.es=some (j,z)→(lc4 x Q)∧(lc1 x Q)∧True)∧(mfind (Pt.mk (idB x.t) (x_1:Int)) x.l.es=none→inI64 ((x_1:Int)+(1:Int))∧∃ (y:Nat),(y≤x.t.outs.length∧∀ (j:Nat),j<y→mfind (Pt.mk (idB x.t) (j:Int)) x.l.es=none)∧x.t.outs.length-y<x.t.outs.length-x_1∧(y:Int)=(x_1:Int)+(1:Int)∧(lc3 x Q)∧True))∧((lc2 x Q)∧(x_1:Int)=(x_1:Int))∧True∧TxOk x.t∧∀ (st:List Int),st.Nodup→st.length=x.l.es.length→(idB x.t=idB x.t∧(x_1:Int)=(x_1:Int)∧True)∧(∀ (j:Nat) (z:AA (99:Nat)),mfind (Pt.mk (idB x.t) (x_1:Int)) x.l.es=some (j,z)→(lc4 x Q)∧(lc1 x Q)∧True)∧(mfind (Pt.mk (idB x.t) (x_1:Int)) x.l.es=none→inI64 ((x_1:Int)+(1:Int))∧∃ (y:Nat),(y≤x.t.outs.length∧∀ (j:Nat),j<y→mfind (Pt.mk (idB x.t) (j:Int)) x.l.es=none)∧x.t.outs.length-y<x.t.outs.length-x_1∧(y:Int)=(x_1:Int)+(1:Int)∧(lc3 x Q)∧True))∧(decide ((x_1:Int)<(x.t.outs.length:Int))=false→inI64 ((spendR x).fst-(totG x.t.outs (0:Int)).fst)∧((checkF x).fst=(spendR x).fst-(totG x.t.outs (0:Int)).fst∧(checkF x).snd=(0:Int))∧(lc1 x Q)∧True)))))))
theorem lcheck_eqN:lcheckV bnilP=fnS (F232 bnil) f23 (bodyOf f23) (lcheckLS bnil) lcheckAnn:=by kernel_rfl
theorem lcheck_eqJ:lcheckV True=fnS (F232 .junk) f23 (bodyOf f23) (lcheckLS .junk) lcheckAnn:=by kernel_rfl
theorem check_some {t:TxD} (h:checkT t=0):someB t.ins.length=true∧someB t.outs.length=true:=by
 unfold checkT at h
 split at h
 ·omega
 ·rename_i h1
  simp only [not_or] at h1
  exact ⟨by simpa using h1.2.2.1,by simpa using h1.2.2.2.1⟩
theorem spendG_lo {es:List (Pt×EntD)} (he:∀ p,p∈es→0≤p.2.amount∧p.2.amount≤1125899906842624) {sg:List Int} {h:Int}:∀ (l:List TIn) (n:Int),0≤n→0≤(spendG es sg h l n).1∧(spendG es sg h l n).1≤n+1125899906842624*(l.length:Int)
 | [],n,hn=>⟨hn,by show n≤_; simp⟩
 | x::l,n,hn=>by
  simp only [spendG,List.length_cons]
  split
  ·exact ⟨Int.le_refl _,by show (0:Int)≤_; omega⟩
  ·rename_i p hp
   have hm:=he _ (mfind_mem (j:=p.1) (z:=p.2) hp)
   simp only at hm
   split
   ·exact ⟨Int.le_refl _,by show (0:Int)≤_; omega⟩
   ·have ih:=spendG_lo he (sg:=sg) (h:=h) l (n+p.2.amount) (by omega)
    omega
theorem totG_from:∀ (l:List TOut) (n:Int),0≤n→0≤(totG l n).1
 | [],n,h=>h
 | o::l,n,h=>by
  simp only [totG]
  split
  ·exact Int.le_refl _
  ·rename_i h1
   exact totG_from l _ (by omega)
theorem totG_lo (l:List TOut):0≤(totG l 0).1:=totG_from l 0 (Int.le_refl _)
theorem lcheck_vc {Q:Prop} (hQ:Q):lcheckV Q:=by
 intro x hx
 have hk:=bk16_ok hQ
 have c2:lc2 x Q:=⟨rfl,rfl,rfl,trivial⟩
 have c1:lc1 x Q:=⟨⟨trivial,rfl,trivial⟩,rfl,hk,rfl,trivial⟩
 have c3:lc3 x Q:=⟨⟨trivial,rfl,trivial⟩,rfl,hk,rfl,c2,trivial⟩
 refine ⟨rfl,trivial,trivial,fun h=>?_,fun h=>⟨c2,trivial,trivial,fun h2=>?_,fun h2=>⟨fun h3=>?_,fun h3=>?_⟩⟩⟩
 ·have e:checkF x=(0,4):=by
   unfold checkF
   rw [if_pos (by simpa using h)]
  rw [e]
  exact ⟨⟨rfl,rfl,by omega⟩,c1,trivial⟩
 ·have e:checkF x=(0,checkT x.t):=by
   unfold checkF
   rw [if_neg (by simpa using h),if_pos (by simpa using h2)]
  rw [e]
  exact ⟨⟨rfl,rfl⟩,c1,trivial⟩
 ·have e:checkF x=(0,23):=by
   unfold checkF
   rw [if_neg (by simpa using h),if_neg (by simpa using h2),if_pos (of_decide_eq_true h3)]
  rw [e]
  exact ⟨⟨rfl,rfl,by omega⟩,c1,trivial⟩
 have hT:checkT x.t=0:=by simpa using h2
 have hs:=check_some hT
 have hl1:((x.t.ins.length:Nat):Int)≤64:=by
  have:=hs.1
  unfold someB at this
  exact of_decide_eq_true (Bool.and_eq_true_iff.1 this).2
 have hl2:((x.t.outs.length:Nat):Int)≤64:=by
  have:=hs.2
  unfold someB at this
  exact of_decide_eq_true (Bool.and_eq_true_iff.1 this).2
 have few:x.Few:={ hx with few:=by omega,h:=by simpa using h }
 have lo:=spendG_lo (fun p hp=>(hx.es p hp).1) (sg:=sgOf x) (h:=x.h) x.t.ins 0 (Int.le_refl _)
 change 0≤(spendR x).1∧(spendR x).1≤_ at lo
 refine ⟨⟨trivial,c2,rfl,trivial⟩,c1,few,fun h4=>?_,fun h4=>⟨c2,trivial,trivial,fun h5=>?_,fun h5=>⟨fun h6=>?_,fun h6 _=>⟨⟨0,⟨Nat.zero_le _,fun j hj=>by omega⟩,rfl,c3,trivial⟩,fun i hi=>⟨fun h7=>?_,fun h7=>?_⟩⟩⟩⟩⟩
 ·have e:checkF x=(0,(spendR x).2):=by
   unfold checkF
   rw [if_neg (by simpa using h),if_neg (by simpa using h2),if_neg (of_decide_eq_false h3),if_pos (by simpa using h4)]
  rw [e]
  exact ⟨⟨rfl,rfl⟩,c1,trivial⟩
 ·have e:checkF x=(0,(totG x.t.outs 0).2):=by
   unfold checkF
   rw [if_neg (by simpa using h),if_neg (by simpa using h2),if_neg (of_decide_eq_false h3),if_neg (by simpa using h4),if_pos (by simpa using h5)]
  rw [e]
  exact ⟨⟨rfl,rfl⟩,c1,trivial⟩
 ·have e:checkF x=(0,20):=by
   unfold checkF
   rw [if_neg (by simpa using h),if_neg (by simpa using h2),if_neg (of_decide_eq_false h3),if_neg (by simpa using h4),if_neg (by simpa using h5),if_pos (of_decide_eq_true h6)]
  rw [e]
  exact ⟨⟨rfl,rfl,by omega⟩,c1,trivial⟩
 ·have h7':(i:Int)<x.t.outs.length:=of_decide_eq_true h7
  have one:∀ st:List Int,st.Nodup→st.length=x.l.es.length→(idB x.t=idB x.t∧(i:Int)=(i:Int)∧True)∧(∀ (j:Nat) (z:AA (99:Nat)),mfind (Pt.mk (idB x.t) (i:Int)) x.l.es=some (j,z)→(lc4 x Q)∧(lc1 x Q)∧True)∧(mfind (Pt.mk (idB x.t) (i:Int)) x.l.es=none→inI64 ((i:Int)+(1:Int))∧∃ (y:Nat),(y≤x.t.outs.length∧∀ (j:Nat),j<y→mfind (Pt.mk (idB x.t) (j:Int)) x.l.es=none)∧x.t.outs.length-y<x.t.outs.length-i∧(y:Int)=(i:Int)+(1:Int)∧(lc3 x Q)∧True):=by
   intro st _ _
   refine ⟨⟨rfl,rfl,trivial⟩,fun j z hf=>?_,fun hf=>⟨by unfold inI64; omega,i+1,⟨by omega,fun j hj=>?_⟩,by omega,by omega,c3,trivial⟩⟩
   ·have ha:anyAt x.l.es (idB x.t) x.t.outs.length=true:=by
     unfold anyAt
     exact decide_eq_true ⟨i,by omega,fun hn=>by
      have hc:=hf.symm.trans hn
      cases hc⟩
    have e:checkF x=(0,9):=by
     unfold checkF
     rw [if_neg (by simpa using h),if_neg (by simpa using h2),if_neg (of_decide_eq_false h3),if_neg (by simpa using h4),if_neg (by simpa using h5),if_neg (of_decide_eq_false h6),if_pos ha]
    exact ⟨by unfold lc4; rw [e]; exact ⟨rfl,rfl,by omega⟩,c1,trivial⟩
   ·rcases Nat.lt_or_ge j i with hj2 | hj2
    ·exact hi.2 j hj2
    ·rw [show j=i by omega]
     exact hf
  exact ⟨⟨⟨c2,rfl⟩,trivial,hx.t,one,one⟩,⟨c2,rfl⟩,trivial,hx.t,one⟩
 ·have h7':¬(i:Int)<x.t.outs.length:=of_decide_eq_false h7
  have ha:¬anyAt x.l.es (idB x.t) x.t.outs.length=true:=by
   unfold anyAt
   intro hd
   obtain ⟨j,hj,hne⟩:=of_decide_eq_true hd
   exact hne (hi.2 j (by omega))
  have e:checkF x=((spendR x).1-(totG x.t.outs 0).1,0):=by
   unfold checkF
   rw [if_neg (by simpa using h),if_neg (by simpa using h2),if_neg (of_decide_eq_false h3),if_neg (by simpa using h4),if_neg (by simpa using h5),if_neg (of_decide_eq_false h6),if_neg ha]
  have h6':¬(totG x.t.outs 0).1>(spendR x).1:=of_decide_eq_false h6
  have ht:=totG_lo x.t.outs
  rw [e]
  exact ⟨by unfold inI64; omega,⟨rfl,rfl⟩,c1,trivial⟩
theorem lcheck_has:Has prog 23 f23 (bodyOf f23):=⟨by kernel_rfl,by kernel_rfl,by kernel_rfl⟩
theorem known233N:Known prog (L233 bnil):=by
 unfold L233
 exact known232N.lent mixed lcheck_has (F232_eq _) ⟨lcheck_eqN▸lcheck_vc bnilP_ok⟩ (fun _ _=>Nat.le_refl _) (fun h=>by cases h)
theorem known233J:Known prog (L233 .junk):=by
 unfold L233
 exact known232J.lent mixed lcheck_has (F232_eq _) ⟨lcheck_eqJ▸lcheck_vc trivial⟩ (fun _ _=>Nat.le_refl _) (fun h=>by cases h)
end Go.Proofs.YthkffadomgcdaaaGreatDoor

/-! What a ledger does; what a party alone can spend: what is said of them. Conditions: none. -/
namespace Go.Proofs.YthkffadomgcdaaaGreatDoor
open Go Go.Eng Go.Proofs.Tryz
noncomputable def delM (es:List (Pt×EntD)) (k:Pt):List (Pt×EntD):=match mfind k es with
 | some p=>es.eraseIdx p.1
 | none=>es
noncomputable def setM (es:List (Pt×EntD)) (k:Pt) (v:EntD):List (Pt×EntD):=match mfind k es with
 | some p=>es.set p.1 (k,v)
 | none=>es++[(k,v)]
noncomputable def delI:List (Pt×EntD)→List TIn→List (Pt×EntD)
 | es,[]=>es
 | es,x::l=>delI (delM es ⟨x.tx,x.n⟩) l
noncomputable def setO (id:List Int) (h:Int):List (Pt×EntD)→List TOut→Nat→List (Pt×EntD)
 | es,[],_=>es
 | es,o::l,k=>setO id h (setM es ⟨id,(k:Nat)⟩ ⟨o.amount,o.cond,h⟩) l (k+1)
noncomputable def applyL (x:SpX):LgX:=if (checkF x).2=0 then ⟨setO (idB x.t) x.h (delI x.l.es x.t.ins) x.t.outs 0,x.l.total-(checkF x).1⟩ else x.l
structure SpX.Do (x:SpX):Prop extends SpX.Ok x where
 lo:0≤x.l.total
 hi:x.l.total≤1125899906842624
 w:∀ o,o∈x.t.outs→weight o.cond≤300
noncomputable def applyLS:LS AA where
 X:=SpX
 pre:=SpX.Do
 args:=fun x=>[.ptr 0 0,.agg (txSL x.t),.int .i64 x.h,.ptr 2 0]
 hin:=fun x=>[lgSO 1 x.l,lgM x.l,bkSO 3 .junk,bkM x.b]
 res:=fun x=>[.int .i64 (checkF x).1,.err 111 (checkF x).2]
 hout:=fun x=>[lgSO 1 (applyL x),lgM (applyL x),bkSO 3 .junk,bkM x.b]
noncomputable def applyAnn (x:SpX):Anns AA:=fun k _ _=>if k=6 then some {
  X:=Nat×List (Pt×EntD)
  inv:=fun y=>y.1≤x.t.ins.length∧delI x.l.es x.t.ins=delI y.2 (x.t.ins.drop y.1)
  meas:=fun y=>x.t.ins.length-y.1
  slots:=fun y=>[(31,.int .i64 y.1)]
  heap:=fun y=>[(1,lgM ⟨y.2,0⟩)] }
 else some {
  X:=Nat×List (Pt×EntD)
  inv:=fun y=>y.1≤x.t.outs.length∧setO (idB x.t) x.h (delI x.l.es x.t.ins) x.t.outs 0=setO (idB x.t) x.h y.2 (x.t.outs.drop y.1) y.1
  meas:=fun y=>x.t.outs.length-y.1
  slots:=fun y=>[(47,.int .i64 y.1)]
  heap:=fun y=>[(1,lgM ⟨y.2,0⟩)] }
noncomputable def L234:List (Nat×SpecT AA):=(11,tLent applyLS spGet)::L233 .junk
def aloneB (b:Br) (p:Int):Bool:=decide ((b.keys.length:Int)=1)&&(decide (b.keys.getD 0 0=p)&&((b.lock==List.replicate 32 0)&&(decide (b.after=0)&&decide (b.older=0))))
structure AlX where
 b:Br
 p:Int
def aloneLS:LS AA where
 X:=AlX
 pre:=fun _=>True
 args:=fun x=>[.agg (encBr x.b),.int .i64 x.p]
 hin:=fun _=>[]
 res:=fun x=>[.sb 0 (aloneB x.b x.p)]
 hout:=fun _=>[]
def brG (sh:List (SO AA)):SV AA→Option Br
 | .agg (.cell ks (.run .u8 _ l (.cell a (.cell o .nil))))=>match gI .i64 sh ks,asI a,asI o with
  | some ks,some a,some o=>some ⟨ks,l,a,o⟩
  | _,_,_=>none
 | _=>none
def aloneGet (args:List (SV AA)) (sh:List (SO AA)):Option AlX:=match args with
 | [b,p]=>match brG sh b,asI p with
  | some b,some p=>some ⟨b,p⟩
  | _,_=>none
 | _=>none
noncomputable def L240:List (Nat×SpecT AA):=(67,tLent aloneLS aloneGet)::L230
noncomputable def F240:Eng AA:=EF prog L240
theorem F240_eq:F240=EF prog L240:=by
 unfold F240
 rfl
def boxI (p:Int):SO AA := .cells 3 (.cell (.int .i64 p) .nil)
def boxG (sh:List (SO AA)):SV AA→Option Int
 | .ptr i 0=>match nth sh i with
  | some (.cells _ (.cell n .nil))=>asI n
  | _=>none
 | _=>none
def has1LS:LS AA where
 X:=AlX
 pre:=fun _=>True
 args:=fun x=>[.agg (encBr x.b),.ptr 0 0]
 hin:=fun x=>[boxI x.p]
 res:=fun x=>[.sb 0 (aloneB x.b x.p)]
 hout:=fun x=>[boxI x.p]
def has1Get (args:List (SV AA)) (sh:List (SO AA)):Option AlX:=match args with
 | [b,p]=>match brG sh b,boxG sh p with
  | some b,some p=>some ⟨b,p⟩
  | _,_=>none
 | _=>none
noncomputable def L241:List (Nat×SpecT AA):=(66,tLent has1LS has1Get)::L240
noncomputable def F241:Eng AA:=EF prog L241
theorem F241_eq:F241=EF prog L241:=by
 unfold F241
 rfl
/-- Where the first branch is by which one alone can spend, or -1. -/
def aIdx (p:Int):List Br→Nat→Int
 | [],_ => -1
 | b::l,n=>if aloneB b p=true then n else aIdx p l (n+1)
structure AlL where
 bs:List Br
 p:Int
def aIdxLS:LS AA where
 X:=AlL
 pre:=fun _=>True
 args:=fun x=>[.rseq 66 (show List (AA 66) from x.bs),.fn (.func 66) .nil (.cell (.ptr 0 0) .nil)]
 hin:=fun x=>[boxI x.p]
 res:=fun x=>[.int .i64 (aIdx x.p x.bs 0)]
 hout:=fun x=>[boxI x.p]
def aIdxGet (args:List (SV AA)) (sh:List (SO AA)):Option AlL:=match args with
 | [s,.fn (.func _) .nil (.cell p .nil)]=>match seqOfS 66 sh s,boxG sh p with
  | some l,some p=>some ⟨l,p⟩
  | _,_=>none
 | _=>none
def aIdxAnn (x:AlL):Anns AA:=fun _ _ _=>some {
 X:=Nat
 inv:=fun k=>k≤x.bs.length∧x.bs.length≤9223372036854775807∧aIdx x.p x.bs 0=aIdx x.p (x.bs.drop k) k
 meas:=fun k=>x.bs.length-k
 slots:=fun k=>[(8,.int .i64 k)]
 heap:=fun _=>[] }
noncomputable def L242:List (Nat×SpecT AA):=(100,tLent aIdxLS aIdxGet)::L241
noncomputable def F242:Eng AA:=EF prog L242
theorem F242_eq:F242=EF prog L242:=by
 unfold F242
 rfl
def aAnyLS:LS AA where
 X:=AlL
 pre:=fun _=>True
 args:=fun x=>[.rseq 66 (show List (AA 66) from x.bs),.fn (.func 66) .nil (.cell (.ptr 0 0) .nil)]
 hin:=fun x=>[boxI x.p]
 res:=fun x=>[.sb 0 (decide (aIdx x.p x.bs 0≥0))]
 hout:=fun x=>[boxI x.p]
noncomputable def L243:List (Nat×SpecT AA):=(65,tLent aAnyLS aIdxGet)::L242
noncomputable def F243:Eng AA:=EF prog L243
theorem F243_eq:F243=EF prog L243:=by
 unfold F243
 rfl
structure HasX where
 l:LgX
 p:Int
structure HasX.Ok (x:HasX):Prop where
 es:∀ p,p∈x.l.es→0≤p.2.amount∧p.2.amount≤1125899906842624
 few:x.l.es.length≤8000
def hasV (p:Int) (e:EntD):Int:=if aIdx p e.cond 0≥0 then e.amount else 0
/-- What those have together that were seen. -/
def hasS (p:Int) (seen:List Int):List (Pt×EntD)→List Int→Int
 | e::es,b::st=>(if b∈seen then hasV p e.2 else 0)+hasS p seen es st
 | _,_=>0
def hasN (p:Int):List (Pt×EntD)→Int
 | []=>0
 | e::es=>hasV p e.2+hasN p es
def lhasLS:LS AA where
 X:=HasX
 pre:=HasX.Ok
 args:=fun x=>[.ptr 0 0,.int .i64 x.p]
 hin:=fun x=>[lgSO 1 x.l,lgM x.l]
 res:=fun x=>[.int .i64 (hasN x.p x.l.es)]
 hout:=fun x=>[lgSO 1 x.l,lgM x.l]
def lhasGet (args:List (SV AA)) (sh:List (SO AA)):Option HasX:=match args with
 | [l,p]=>match lgG sh l,asI p with
  | some l,some p=>some ⟨l,p⟩
  | _,_=>none
 | _=>none
def lhasAnn (x:HasX):Anns AA:=fun _ ts sh=>match nth ts 15,nth sh 1 with
 | some (.ptr j _),some (.rmap _ _ _ st c)=>some {
  X:=List Int×Int
  inv:=fun y=>y.1.Nodup∧(∀ b,b∈y.1→b∈st)∧y.2=hasS x.p y.1 x.l.es st
  meas:=fun y=>st.length-y.1.length
  slots:=fun y=>[(5,.int .i64 y.2)]
  heap:=fun y=>[(j,.miter (.ptr 1 0) c y.1 c)] }
 | _,_=>none
noncomputable def L244:List (Nat×SpecT AA):=(36,tLent lhasLS lhasGet)::L243
end Go.Proofs.YthkffadomgcdaaaGreatDoor

/-! What a ledger does; what a party alone can spend: the walks. Conditions: none. -/
namespace Go.Proofs.YthkffadomgcdaaaGreatDoor
open Go Go.Eng Go.Proofs.Tryz
def la1 (x:SpX):Prop:=x.t.lock=x.t.lock∧x.t.ins=x.t.ins∧x.t.outs=x.t.outs∧True
theorem checkF_err (x:SpX) (h:(checkF x).2≠0):(checkF x).1=0:=by
 revert h
 unfold checkF
 split
 ·intro _; rfl
 split
 ·intro _; rfl
 split
 ·intro _; rfl
 split
 ·intro _; rfl
 split
 ·intro _; rfl
 split
 ·intro _; rfl
 split
 ·intro _; rfl
 ·intro h; exact absurd rfl h
theorem checkF_fee {x:SpX} (hx:x.Ok) (h:(checkF x).2=0):0≤(checkF x).1∧(checkF x).1≤72057594037927936∧checkT x.t=0:=by
 revert h
 unfold checkF
 split
 ·intro h; exact absurd h (by show ¬(4:Int)=0; omega)
 split
 ·rename_i h; intro h2; exact absurd h2 h
 split
 ·intro h; exact absurd h (by show ¬(23:Int)=0; omega)
 split
 ·rename_i h; intro h2; exact absurd h2 h
 split
 ·rename_i h; intro h2; exact absurd h2 h
 split
 ·intro h; exact absurd h (by show ¬(20:Int)=0; omega)
 split
 ·intro h; exact absurd h (by show ¬(9:Int)=0; omega)
 ·rename_i h1 h2 h3 h4 h5 h6 h7
  intro _
  have hT:checkT x.t=0:=Classical.not_not.1 h2
  have hs:=(check_some hT).1
  have hl1:((x.t.ins.length:Nat):Int)≤64:=by
   unfold someB at hs
   exact of_decide_eq_true (Bool.and_eq_true_iff.1 hs).2
  have lo:=spendG_lo (fun p hp=>(hx.es p hp).1) (sg:=sgOf x) (h:=x.h) x.t.ins 0 (Int.le_refl _)
  change 0≤(spendR x).1∧(spendR x).1≤_ at lo
  have ht:=totG_lo x.t.outs
  refine ⟨?_,?_,hT⟩
  ·show 0≤(spendR x).1-(totG x.t.outs 0).1
   omega
  ·show (spendR x).1-(totG x.t.outs 0).1≤_
   omega
theorem drop_cons {α:Type} {l:List α} {i:Nat} {y:α} (h:l[i]?=some y):i<l.length∧l.drop i=y::l.drop (i+1):=by
 have hl:i<l.length:=(List.getElem?_eq_some_iff.1 h).1
 refine ⟨hl,?_⟩
 rw [List.drop_eq_getElem_cons hl]
 rw [List.getElem?_eq_getElem hl] at h
 cases h
 rfl
def lapplyVC:Prop:=∀ (x:SpX),x.Do→(True∧(la1 x)∧x.h=x.h∧True)∧((True∧x.l.total=x.l.total∧True)∧x.l.es=x.l.es∧(bk16 True)∧x.b=x.b∧True)∧x.Ok∧((!(checkF x).snd==(0:Int))=true→((checkF x).fst=(0:Int)∧(checkF x).snd=(checkF x).snd)∧((True∧(applyL x).total=x.l.total∧True)∧(applyL x).es=x.l.es∧(bk16 True)∧x.b=x.b∧True)∧True)∧((!(checkF x).snd==(0:Int))=false→(x.t.ins.length:Int)≤(9223372036854775807:Int)→(∃ (x_1:Nat×List (Pt×EntD)),(x_1.fst≤x.t.ins.length∧delI x.l.es x.t.ins=delI x_1.snd (List.drop x_1.fst x.t.ins))∧(x_1.fst:Int)=(0:Int)∧((True∧x.l.total=x.l.total∧True)∧x_1.snd=x.l.es∧(bk16 True)∧x.b=x.b∧(la1 x)∧True)∧True)∧∀ (x_1:Nat×List (Pt×EntD)),x_1.fst≤x.t.ins.length∧delI x.l.es x.t.ins=delI x_1.snd (List.drop x_1.fst x.t.ins)→(decide ((x_1.fst:Int)<(x.t.ins.length:Int))=true→(0:Int)≤(x_1.fst:Int)∧(x_1.fst:Int)<(x.t.ins.length:Int)∧∀ (y:AA (76:Nat)),x.t.ins[(x_1.fst:Int).toNat]?=some y→∀ (st:List Int),st.Nodup→st.length=x_1.snd.length→(y.tx=y.tx∧y.n=y.n∧True)∧(∀ (j:Nat) (z:AA (99:Nat)),mfind (Pt.mk y.tx y.n) x_1.snd=some (j,z)→inI64 ((x_1.fst:Int)+(1:Int))∧∃ (y:Nat×List (Pt×EntD)),(y.fst≤x.t.ins.length∧delI x.l.es x.t.ins=delI y.snd (List.drop y.fst x.t.ins))∧x.t.ins.length-y.fst<x.t.ins.length-x_1.fst∧(y.fst:Int)=(x_1.fst:Int)+(1:Int)∧((True∧x.l.total=x.l.total∧True)∧y.snd=x_1.snd.eraseIdx j∧(bk16 True)∧x.b=x.b∧(la1 x)∧True)∧True)∧(mfind (Pt.mk y.tx y.n) x_1.snd=none→inI64 ((x_1.fst:Int)+(1:Int))∧∃ (y:Nat×List (Pt×EntD)),(y.fst≤x.t.ins.length∧delI x.l.es x.t.ins=delI y.snd (List.drop y.fst x.t.ins))∧x.t.ins.length-y.fst<x.t.ins.length-x_1.fst∧(y.fst:Int)=(x_1.fst:Int)+(1:Int)∧((True∧x.l.total=x.l.total∧True)∧y.snd=x_1.snd∧(bk16 True)∧x.b=x.b∧(la1 x)∧True)∧True))∧(decide ((x_1.fst:Int)<(x.t.ins.length:Int))=false→(la1 x)∧True∧TxOk x.t∧((x.t.outs.length:Int)≤(9223372036854775807:Int)→(∃ (x_2:Nat×List (Pt×EntD)),(x_2.fst≤x.t.outs.length∧setO (idB x.t) x.h (delI x.l.es x.t.ins) x.t.outs (0:Nat)=setO (idB x.t) x.h x_2.snd (List.drop x_2.fst x.t.outs) x_2.fst)∧(x_2.fst:Int)=(0:Int)∧((True∧x.l.total=x.l.total∧True)∧x_2.snd=x_1.snd∧(bk16 True)∧x.b=x.b∧(la1 x)∧(idB x.t=idB x.t∧True)∧True)∧True)∧∀ (x_2:Nat×List (Pt×EntD)),x_2.fst≤x.t.outs.length∧setO (idB x.t) x.h (delI x.l.es x.t.ins) x.t.outs (0:Nat)=setO (idB x.t) x.h x_2.snd (List.drop x_2.fst x.t.outs) x_2.fst→(decide ((x_2.fst:Int)<(x.t.outs.length:Int))=true→(0:Int)≤(x_2.fst:Int)∧(x_2.fst:Int)<(x.t.outs.length:Int)∧∀ (y:AA (73:Nat)),x.t.outs[(x_2.fst:Int).toNat]?=some y→((y.amount=y.amount∧y.cond=y.cond∧True)∧True∧(weight y.cond).le (300:Nat)∧∀ (st:List Int),st.Nodup→st.length=x_2.snd.length→(idB x.t=idB x.t∧(x_2.fst:Int)=(x_2.fst:Int)∧True)∧(y.amount=y.amount∧y.cond=y.cond∧x.h=x.h∧True)∧(∀ (j:Nat) (z0:AA (99:Nat)),mfind (Pt.mk (idB x.t) (x_2.fst:Int)) x_2.snd=some (j,z0)→inI64 ((x_2.fst:Int)+(1:Int))∧∃ (y_1:Nat×List (Pt×EntD)),(y_1.fst≤x.t.outs.length∧setO (idB x.t) x.h (delI x.l.es x.t.ins) x.t.outs (0:Nat)=setO (idB x.t) x.h y_1.snd (List.drop y_1.fst x.t.outs) y_1.fst)∧x.t.outs.length-y_1.fst<x.t.outs.length-x_2.fst∧(y_1.fst:Int)=(x_2.fst:Int)+(1:Int)∧((True∧x.l.total=x.l.total∧True)∧y_1.snd=x_2.snd.set j (Pt.mk (idB x.t) (x_2.fst:Int),EntD.mk y.amount y.cond x.h)∧(bk16 True)∧x.b=x.b∧(la1 x)∧(idB x.t=idB x.t∧True)∧True)∧True)∧(mfind (Pt.mk (idB x.t) (x_2.fst:Int)) x_2.snd=none→∀ (_:Int),inI64 ((x_2.fst:Int)+(1:Int))∧∃ (y_1:Nat×List (Pt×EntD)),(y_1.fst≤x.t.outs.length∧setO (idB x.t) x.h (delI x.l.es x.t.ins) x.t.outs (0:Nat)=setO (idB x.t) x.h y_1.snd (List.drop y_1.fst x.t.outs) y_1.fst)∧x.t.outs.length-y_1.fst<x.t.outs.length-x_2.fst∧(y_1.fst:Int)=(x_2.fst:Int)+(1:Int)∧((True∧x.l.total=x.l.total∧True)∧y_1.snd=x_2.snd++[(Pt.mk (idB x.t) (x_2.fst:Int),EntD.mk y.amount y.cond x.h)]∧(bk16 True)∧x.b=x.b∧(la1 x)∧(idB x.t=idB x.t∧True)∧True)∧True))∧(y.amount=y.amount∧y.cond=y.cond∧True)∧True∧(weight y.cond).le (300:Nat)∧(∀ (st:List Int),st.Nodup→st.length=x_2.snd.length→(idB x.t=idB x.t∧(x_2.fst:Int)=(x_2.fst:Int)∧True)∧(y.amount=y.amount∧y.cond=y.cond∧x.h=x.h∧True)∧(∀ (j:Nat) (z0:AA (99:Nat)),mfind (Pt.mk (idB x.t) (x_2.fst:Int)) x_2.snd=some (j,z0)→inI64 ((x_2.fst:Int)+(1:Int))∧∃ (y_1:Nat×List (Pt×EntD)),(y_1.fst≤x.t.outs.length∧setO (idB x.t) x.h (delI x.l.es x.t.ins) x.t.outs (0:Nat)=setO (idB x.t) x.h y_1.snd (List.drop y_1.fst x.t.outs) y_1.fst)∧x.t.outs.length-y_1.fst<x.t.outs.length-x_2.fst∧(y_1.fst:Int)=(x_2.fst:Int)+(1:Int)∧((True∧x.l.total=x.l.total∧True)∧y_1.snd=x_2.snd.set j (Pt.mk (idB x.t) (x_2.fst:Int),EntD.mk y.amount y.cond x.h)∧(bk16 True)∧x.b=x.b∧(la1 x)∧(idB x.t=idB x.t∧True)∧True)∧True)∧(mfind (Pt.mk (idB x.t) (x_2.fst:Int)) x_2.snd=none→∀ (_:Int),inI64 ((x_2.fst:Int)+(1:Int))∧∃ (y_1:Nat×List (Pt×EntD)),(y_1.fst≤x.t.outs.length∧setO (idB x.t) x.h (delI x.l.es x.t.ins) x.t.outs (0:Nat)=setO (idB x.t) x.h y_1.snd (List.drop y_1.fst x.t.outs) y_1.fst)∧x.t.outs.length-y_1.fst<x.t.outs.length-x_2.fst∧(y_1.fst:Int)=(x_2.fst:Int)+(1:Int)∧((True∧x.l.total=x.l.total∧True)∧y_1.snd=x_2.snd++[(Pt.mk (idB x.t) (x_2.fst:Int),EntD.mk y.amount y.cond x.h)]∧(bk16 True)∧x.b=x.b∧(la1 x)∧(idB x.t=idB x.t∧True)∧True)∧True))∧∀ (st:List Int),st.Nodup→st.length=x_2.snd.length→(idB x.t=idB x.t∧(x_2.fst:Int)=(x_2.fst:Int)∧True)∧(y.amount=y.amount∧y.cond=y.cond∧x.h=x.h∧True)∧(∀ (j:Nat) (z0:AA (99:Nat)),mfind (Pt.mk (idB x.t) (x_2.fst:Int)) x_2.snd=some (j,z0)→inI64 ((x_2.fst:Int)+(1:Int))∧∃ (y_1:Nat×List (Pt×EntD)),(y_1.fst≤x.t.outs.length∧setO (idB x.t) x.h (delI x.l.es x.t.ins) x.t.outs (0:Nat)=setO (idB x.t) x.h y_1.snd (List.drop y_1.fst x.t.outs) y_1.fst)∧x.t.outs.length-y_1.fst<x.t.outs.length-x_2.fst∧(y_1.fst:Int)=(x_2.fst:Int)+(1:Int)∧((True∧x.l.total=x.l.total∧True)∧y_1.snd=x_2.snd.set j (Pt.mk (idB x.t) (x_2.fst:Int),EntD.mk y.amount y.cond x.h)∧(bk16 True)∧x.b=x.b∧(la1 x)∧(idB x.t=idB x.t∧True)∧True)∧True)∧(mfind (Pt.mk (idB x.t) (x_2.fst:Int)) x_2.snd=none→∀ (_:Int),inI64 ((x_2.fst:Int)+(1:Int))∧∃ (y_1:Nat×List (Pt×EntD)),(y_1.fst≤x.t.outs.length∧setO (idB x.t) x.h (delI x.l.es x.t.ins) x.t.outs (0:Nat)=setO (idB x.t) x.h y_1.snd (List.drop y_1.fst x.t.outs) y_1.fst)∧x.t.outs.length-y_1.fst<x.t.outs.length-x_2.fst∧(y_1.fst:Int)=(x_2.fst:Int)+(1:Int)∧((True∧x.l.total=x.l.total∧True)∧y_1.snd=x_2.snd++[(Pt.mk (idB x.t) (x_2.fst:Int),EntD.mk y.amount y.cond x.h)]∧(bk16 True)∧x.b=x.b∧(la1 x)∧(idB x.t=idB x.t∧True)∧True)∧True))∧(decide ((x_2.fst:Int)<(x.t.outs.length:Int))=false→inI64 (x.l.total-(checkF x).fst)∧((checkF x).fst=(checkF x).fst∧(checkF x).snd=(0:Int))∧((True∧(applyL x).total=x.l.total-(checkF x).fst∧True)∧(applyL x).es=x_2.snd∧(bk16 True)∧x.b=x.b∧True)∧True))))
theorem lapply_eq:lapplyVC=fnS (F233 .junk) f11 (bodyOf f11) applyLS applyAnn:=by kernel_rfl
theorem lapply_vc:lapplyVC:=by
 intro x hx
 have hk:bk16 True:=bk16_ok trivial
 have l1:la1 x:=⟨rfl,rfl,rfl,trivial⟩
 have hlo:=hx.lo
 have hhi:=hx.hi
 refine ⟨⟨trivial,l1,rfl,trivial⟩,⟨⟨trivial,rfl,trivial⟩,rfl,hk,rfl,trivial⟩,hx.toOk,fun h=>?_,fun h _=>⟨⟨(0,x.l.es),⟨Nat.zero_le _,rfl⟩,rfl,⟨⟨trivial,rfl,trivial⟩,rfl,hk,rfl,l1,trivial⟩,trivial⟩,?_⟩⟩
 ·have h':(checkF x).2≠0:=by simpa using h
  have e:applyL x=x.l:=by
   unfold applyL
   rw [if_neg h']
  rw [e]
  exact ⟨⟨checkF_err x h',rfl⟩,⟨⟨trivial,rfl,trivial⟩,rfl,hk,rfl,trivial⟩,trivial⟩
 have h':(checkF x).2=0:=by simpa using h
 obtain ⟨f1,f2,f3⟩:=checkF_fee hx.toOk h'
 rintro ⟨i,es⟩ ⟨hi,hs⟩
 simp only at hi hs
 refine ⟨fun h1=>?_,fun h1=>⟨l1,trivial,hx.t,fun _=>⟨⟨(0,es),⟨Nat.zero_le _,?_⟩,rfl,⟨⟨trivial,rfl,trivial⟩,rfl,hk,rfl,l1,⟨rfl,trivial⟩,trivial⟩,trivial⟩,?_⟩⟩⟩
 ·have h1':(i:Int)<x.t.ins.length:=of_decide_eq_true h1
  have hl64:=(check_some f3).1
  refine ⟨by simp only; omega,h1',fun y hy st _ _=>?_⟩
  have hy':x.t.ins[i]?=some y:=hy
  obtain ⟨hl,hd⟩:=drop_cons hy'
  have hn:=hx.t.n
  rw [hd] at hs
  refine ⟨⟨rfl,rfl,trivial⟩,fun j z hf=>⟨by unfold inI64; simp only; omega,(i+1,es.eraseIdx j),⟨hl,?_⟩,by simp only; omega,by simp only; omega,⟨⟨trivial,rfl,trivial⟩,rfl,hk,rfl,l1,trivial⟩,trivial⟩,fun hf=>⟨by unfold inI64; simp only; omega,(i+1,es),⟨hl,?_⟩,by simp only; omega,by simp only; omega,⟨⟨trivial,rfl,trivial⟩,rfl,hk,rfl,l1,trivial⟩,trivial⟩⟩
  ·rw [hs]
   simp only [delI,delM]
   rw [hf]
  ·rw [hs]
   simp only [delI,delM]
   rw [hf]
 ·have h1':¬(i:Int)<x.t.ins.length:=of_decide_eq_false h1
  rw [List.drop_of_length_le (by omega)] at hs
  simp only [delI] at hs
  rw [hs]
  rfl
 rintro ⟨k,fs⟩ ⟨hk2,hs2⟩
 simp only at hk2 hs2
 refine ⟨fun h2=>?_,fun h2=>?_⟩
 ·have h2':(k:Int)<x.t.outs.length:=of_decide_eq_true h2
  refine ⟨by simp only; omega,h2',fun y hy=>?_⟩
  have hy':x.t.outs[k]?=some y:=hy
  obtain ⟨hl,hd⟩:=drop_cons hy'
  have hn:=hx.t.m
  have hw:(weight y.cond).le 300:=hx.w y (List.mem_of_getElem? hy')
  rw [hd] at hs2
  refine ⟨⟨⟨rfl,rfl,trivial⟩,trivial,hw,?_⟩,⟨rfl,rfl,trivial⟩,trivial,hw,?_,?_⟩
  all_goals
   intro st _ _
   refine ⟨⟨rfl,rfl,trivial⟩,⟨rfl,rfl,rfl,trivial⟩,fun j z0 hf=>⟨by unfold inI64; simp only; omega,(k+1,fs.set j (Pt.mk (idB x.t) (k:Nat),EntD.mk y.amount y.cond x.h)),⟨hl,?_⟩,by simp only; omega,by simp only; omega,⟨⟨trivial,rfl,trivial⟩,rfl,hk,rfl,l1,⟨rfl,trivial⟩,trivial⟩,trivial⟩,fun hf b=>⟨by unfold inI64; simp only; omega,(k+1,fs++[(Pt.mk (idB x.t) (k:Nat),EntD.mk y.amount y.cond x.h)]),⟨hl,?_⟩,by simp only; omega,by simp only; omega,⟨⟨trivial,rfl,trivial⟩,rfl,hk,rfl,l1,⟨rfl,trivial⟩,trivial⟩,trivial⟩⟩
   ·rw [hs2]
    simp only [setO,setM]
    rw [hf]
   ·rw [hs2]
    simp only [setO,setM]
    rw [hf]
 ·have h2':¬(k:Int)<x.t.outs.length:=of_decide_eq_false h2
  rw [List.drop_of_length_le (by omega)] at hs2
  simp only [setO] at hs2
  have e:applyL x=⟨fs,x.l.total-(checkF x).1⟩:=by
   unfold applyL
   rw [if_pos h',hs2]
  rw [e,h']
  exact ⟨by unfold inI64; omega,⟨rfl,rfl⟩,⟨⟨trivial,rfl,trivial⟩,rfl,hk,rfl,trivial⟩,trivial⟩
theorem lapply_ok:Fits (F233 .junk) f11 (bodyOf f11) applyLS applyAnn:=by
 constructor
 rw [← lapply_eq]
 exact lapply_vc
theorem lapply_has:Has prog 11 f11 (bodyOf f11):=⟨by kernel_rfl,by kernel_rfl,by kernel_rfl⟩
theorem known234:Known prog L234:=by
 unfold L234
 exact known233J.lent mixed lapply_has (F233_eq _) lapply_ok (fun _ _=>Nat.le_refl _) (fun h=>by cases h)
def laloneVC:Prop:=∀ (x:AlX),True→(x.b.keys.length:Int)≤(9223372036854775807:Int)→(((x.b.keys.length:Int)==(1:Int))=true→(0:Int)≤(0:Int) ∧
 (0:Int)<(x.b.keys.length:Int)∧Int.toNat (0:Int)<x.b.keys.length∧((x.b.keys.getD (Int.toNat (0:Int)) (0:Int)==x.p)=true →
 ((x.b.lock==List.replicate (32:Nat) (0:Int))=true→((x.b.after==(0:Int))=true→aloneB x.b x.p=(x.b.older==(0:Int))∧True∧True)
 ∧ ((x.b.after==(0:Int))=false→aloneB x.b x.p=false∧True∧True))∧((x.b.lock==List.replicate (32:Nat) (0:Int))=false→aloneB x.b
 x.p=false∧True∧True))∧((x.b.keys.getD (Int.toNat (0:Int)) (0:Int)==x.p)=false→aloneB x.b x.p=false∧True∧True)) ∧
 (((x.b.keys.length:Int)==(1:Int))=false→aloneB x.b x.p=false∧True∧True)
theorem lalone_eq:laloneVC=fnS F230 f67 (bodyOf f67) aloneLS noAnn:=by kernel_rfl
theorem lalone_vc:laloneVC:=by
 intro x _ _
 have e0:Int.toNat (0:Int)=0:=rfl
 refine ⟨fun h1=>?_,fun h1=>⟨?_,trivial,trivial⟩⟩
 ·have h1':(x.b.keys.length:Int)=1:=by simpa using h1
  refine ⟨by omega,by omega,by rw [e0]; omega,fun h2=>⟨fun h3=>⟨fun h4=>⟨?_,trivial,trivial⟩,fun h4=>⟨?_,trivial,trivial⟩⟩,fun h3=>⟨?_,trivial,trivial⟩⟩,fun h2=>⟨?_,trivial,trivial⟩⟩
  all_goals unfold aloneB
  ·rw [decide_eq_true h1',decide_eq_true (p:=x.b.keys.getD 0 0=x.p) (by simpa using h2),h3,decide_eq_true (p:=x.b.after=0) (by simpa using h4)]
   simp only [Bool.true_and]
   by_cases h5:x.b.older=0
   ·rw [decide_eq_true h5]; simp [h5]
   ·rw [decide_eq_false h5]; simp [h5]
  ·rw [decide_eq_false (p:=x.b.after=0) (by simpa using h4)]
   simp
  ·rw [h3]
   simp
  ·rw [decide_eq_false (p:=x.b.keys.getD 0 0=x.p) (by simpa using h2)]
   simp
 ·unfold aloneB
  rw [decide_eq_false (by simpa using h1)]
  rfl
theorem lalone_ok:Fits F230 f67 (bodyOf f67) aloneLS noAnn:=by
 constructor
 rw [← lalone_eq]
 exact lalone_vc
theorem lalone_has:Has prog 67 f67 (bodyOf f67):=⟨by kernel_rfl,by kernel_rfl,by kernel_rfl⟩
theorem known240:Known prog L240:=by
 unfold L240
 exact known230.lent mixed lalone_has F230_eq lalone_ok (fun _ _=>Nat.zero_le _) (fun _ _=>rfl)
def lhas1VC:Prop:=∀ (x:AlX),True→((x.b.keys=x.b.keys∧x.b.lock=x.b.lock∧x.b.after=x.b.after∧x.b.older=x.b.older∧True)∧x.p=x.p)∧True∧True ∧
 aloneB x.b x.p=aloneB x.b x.p∧((x.p=x.p∧True)∧True)∧True
theorem lhas1_eq:lhas1VC=fnS F240 f66 (bodyOf f66) has1LS noAnn:=by kernel_rfl
theorem lhas1_vc:lhas1VC:=fun _ _=>⟨⟨⟨rfl,rfl,rfl,rfl,trivial⟩,rfl⟩,trivial,trivial,rfl,⟨⟨rfl,trivial⟩,trivial⟩,trivial⟩
theorem lhas1_ok:Fits F240 f66 (bodyOf f66) has1LS noAnn:=by
 constructor
 rw [← lhas1_eq]
 exact lhas1_vc
theorem lhas1_has:Has prog 66 f66 (bodyOf f66):=⟨by kernel_rfl,by kernel_rfl,by kernel_rfl⟩
theorem known241:Known prog L241:=by
 unfold L241
 exact known240.lent mixed lhas1_has F240_eq lhas1_ok (fun _ _=>Nat.le_refl _) (fun h=>by cases h)
theorem aIdx_at {p:Int} {l:List Br} {k:Nat} {y:Br} (h:l[k]?=some y):aIdx p (l.drop k) k=if aloneB y p=true then (k:Int) else aIdx p (l.drop (k+1)) (k+1):=by
 rw [(drop_cons h).2]
 rfl
def laidxVC:Prop:=∀ (x:AlL),True→(x.bs.length:Int)≤(9223372036854775807:Int)→(∃ (x_1:Nat),(x_1≤x.bs.length∧x.bs.length≤(9223372036854775807:Nat)∧aIdx x.p x.bs (0:Nat)=aIdx x.p (List.drop x_1 x.bs) x_1)∧(x_1:Int)=(0:Int)∧((x.p=x.p∧True)∧True)∧True)∧∀ (x_1:Nat),x_1≤x.bs.length∧x.bs.length≤(9223372036854775807:Nat)∧aIdx x.p x.bs (0:Nat)=aIdx x.p (List.drop x_1 x.bs) x_1→(decide ((x_1:Int)<(x.bs.length:Int))=true→(0:Int)≤(x_1:Int)∧(x_1:Int)<(x.bs.length:Int)∧∀ (y:AA (66:Nat)),x.bs[(x_1:Int).toNat]?=some y→((y.keys=y.keys∧y.lock=y.lock∧y.after=y.after∧y.older=y.older∧True)∧True)∧((x.p=x.p∧True)∧True)∧True∧(aloneB y x.p=true→aIdx x.p x.bs (0:Nat)=(x_1:Int)∧((x.p=x.p∧True)∧True)∧True)∧(aloneB y x.p=false→inI64 ((x_1:Int)+(1:Int))∧∃ (y:Nat),(y≤x.bs.length∧x.bs.length≤(9223372036854775807:Nat)∧aIdx x.p x.bs (0:Nat)=aIdx x.p (List.drop y x.bs) y)∧x.bs.length-y<x.bs.length-x_1∧(y:Int)=(x_1:Int)+(1:Int)∧((x.p=x.p∧True)∧True)∧True))∧(decide ((x_1:Int)<(x.bs.length:Int))=false→aIdx x.p x.bs (0:Nat)=(-1:Int)∧((x.p=x.p∧True)∧True)∧True)
theorem laidx_eq:laidxVC=fnS F241 f100 (bodyOf f100) aIdxLS aIdxAnn:=by kernel_rfl
theorem laidx_vc:laidxVC:=by
 intro x _ hl
 refine ⟨⟨0,⟨Nat.zero_le _,by omega,rfl⟩,rfl,⟨⟨rfl,trivial⟩,trivial⟩,trivial⟩,fun k hk=>⟨fun h=>?_,fun h=>?_⟩⟩
 ·simp only [decide_eq_true_eq] at h
  have hk':k<x.bs.length:=by omega
  refine ⟨by omega,h,fun y hy=>⟨⟨⟨rfl,rfl,rfl,rfl,trivial⟩,trivial⟩,⟨⟨rfl,trivial⟩,trivial⟩,trivial,fun h1=>⟨?_,⟨⟨rfl,trivial⟩,trivial⟩,trivial⟩,fun h1=>⟨by unfold inI64; omega,k+1,⟨hk',hk.2.1,?_⟩,by omega,by omega,⟨⟨rfl,trivial⟩,trivial⟩,trivial⟩⟩⟩
  ·have hy':x.bs[k]?=some y:=hy
   rw [hk.2.2,aIdx_at hy',if_pos (show aloneB y x.p=true from h1)]
  ·have hy':x.bs[k]?=some y:=hy
   have h1':aloneB y x.p=false:=h1
   rw [hk.2.2,aIdx_at hy',if_neg (by rw [h1']; simp)]
 ·simp only [decide_eq_false_iff_not] at h
  refine ⟨?_,⟨⟨rfl,trivial⟩,trivial⟩,trivial⟩
  rw [hk.2.2,List.drop_of_length_le (by omega)]
  rfl
theorem laidx_ok:Fits F241 f100 (bodyOf f100) aIdxLS aIdxAnn:=by
 constructor
 rw [← laidx_eq]
 exact laidx_vc
theorem laidx_has:Has prog 100 f100 (bodyOf f100):=⟨by kernel_rfl,by kernel_rfl,by kernel_rfl⟩
theorem known242:Known prog L242:=by
 unfold L242
 exact known241.lent mixed laidx_has F241_eq laidx_ok (fun _ _=>Nat.le_refl _) (fun h=>by cases h)
def laanyVC:Prop:=∀ (x:AlL),True→(x.bs=x.bs∧Fn.func (66:FuncId)=Fn.func (66:FuncId)∧True∧True∧True)∧((x.p=x.p∧True)∧True)∧True∧decide
 (aIdx x.p x.bs (0:Nat)≥(0:Int))=decide (aIdx x.p x.bs (0:Nat)≥(0:Int))∧((x.p=x.p∧True)∧True)∧True
theorem laany_eq:laanyVC=fnS F242 f65 (bodyOf f65) aAnyLS noAnn:=by kernel_rfl
theorem laany_vc:laanyVC:=fun _ _=>⟨⟨rfl,rfl,trivial,trivial,trivial⟩,⟨⟨rfl,trivial⟩,trivial⟩,trivial,rfl,⟨⟨rfl,trivial⟩,trivial⟩,trivial⟩
theorem laany_ok:Fits F242 f65 (bodyOf f65) aAnyLS noAnn:=by
 constructor
 rw [← laany_eq]
 exact laany_vc
theorem laany_has:Has prog 65 f65 (bodyOf f65):=⟨by kernel_rfl,by kernel_rfl,by kernel_rfl⟩
theorem known243:Known prog L243:=by
 unfold L243
 exact known242.lent mixed laany_has F242_eq laany_ok (fun _ _=>Nat.le_refl _) (fun h=>by cases h)
theorem hasS_nil (p:Int):∀ (es:List (Pt×EntD)) (st:List Int),hasS p [] es st=0
 | [],_=>rfl
 | _::_,[]=>rfl
 | e::es,b::st=>by
  simp only [hasS,hasS_nil p es st]
  rfl
theorem hasS_all (p:Int) (seen:List Int):∀ (es:List (Pt×EntD)) (st:List Int),st.length=es.length→(∀ b,b∈st→b∈seen)→hasS p seen es st=hasN p es
 | [],_,_,_=>by simp [hasS,hasN]
 | _::_,[],h,_=>by simp at h
 | e::es,b::st,h,hb=>by
  simp only [hasS,hasN]
  rw [if_pos (hb b List.mem_cons_self),hasS_all p seen es st (by simpa using h) fun c hc=>hb c (List.mem_cons_of_mem _ hc)]
theorem hasS_same (p:Int) {seen:List Int} {b:Int}:∀ (es:List (Pt×EntD)) (st:List Int),b∉st→hasS p (seen++[b]) es st=hasS p seen es st
 | [],_,_=>by simp [hasS]
 | _::_,[],_=>rfl
 | e::es,c::st,h=>by
  have h1:c≠b:=fun e=>h (e▸List.mem_cons_self)
  have h2:(c∈seen++[b])↔c∈seen:=by simp [h1]
  simp only [hasS,h2,hasS_same p es st fun hc=>h (List.mem_cons_of_mem _ hc)]
theorem hasS_more (p:Int) {seen:List Int} {b:Int} (hb:b∉seen):∀ (es:List (Pt×EntD)) (st:List Int) (j:Nat) (e:Pt×EntD),st.Nodup→es[j]?=some e→st[j]?=some b→hasS p (seen++[b]) es st=hasS p seen es st+hasV p e.2
 | [],_,j,e,_,h,_=>by simp at h
 | _::_,[],j,e,_,_,h=>by simp at h
 | d::es,c::st,0,e,hn,h1,h2=>by
  simp only [List.getElem?_cons_zero,Option.some.injEq] at h1 h2
  subst h1
  subst h2
  have hn':=List.nodup_cons.1 hn
  simp only [hasS]
  rw [if_pos (by simp),if_neg hb,hasS_same p es st hn'.1]
  omega
 | d::es,c::st,j+1,e,hn,h1,h2=>by
  have hn':=List.nodup_cons.1 hn
  have ih:=hasS_more p hb es st j e hn'.2 (by simpa using h1) (by simpa using h2)
  have hc:c≠b:=fun e=>hn'.1 (e▸List.mem_of_getElem? (by simpa using h2:st[j]?=some b))
  have h3:(c∈seen++[b])↔c∈seen:=by simp [hc]
  simp only [hasS,h3,ih]
  omega
theorem hasS_lo (p:Int) (seen:List Int):∀ (es:List (Pt×EntD)) (st:List Int),(∀ q,q∈es→0≤q.2.amount∧q.2.amount≤1125899906842624)→0≤hasS p seen es st∧hasS p seen es st≤1125899906842624*(es.length:Int)
 | [],_,_=>by simp [hasS]
 | _::_,[],_=>by simp [hasS]; omega
 | e::es,b::st,h=>by
  have h1:=h e List.mem_cons_self
  have ih:=hasS_lo p seen es st fun q hq=>h q (List.mem_cons_of_mem _ hq)
  simp only [hasS,hasV,List.length_cons]
  split
  ·split<;>omega
  ·omega
theorem sub_le:∀ {l st:List Int},l.Nodup→(∀ b,b∈l→b∈st)→l.length≤st.length
 | [],_,_,_=>Nat.zero_le _
 | a::l,st,hn,hs=>by
  have hn':=List.nodup_cons.1 hn
  have ha:=hs a List.mem_cons_self
  have h:=sub_le (st:=st.erase a) hn'.2 fun b hb=>(List.mem_erase_of_ne (show b≠a from fun e=>hn'.1 (by rw [← e]; exact hb))).2 (hs b (List.mem_cons_of_mem _ hb))
  rw [List.length_erase_of_mem ha] at h
  have:=List.length_pos_of_mem ha
  rw [List.length_cons]
  omega
def lhasVC:Prop:=∀ (x:HasX),x.Ok→∀ (st:List Int),st.Nodup→st.length=x.l.es.length→∀ (c:Nat),st.Nodup→st.length=x.l.es.length→(∀ (b:Int),b∈st→b<(c:Int))→(∃ (x_1:List Int×Int),(x_1.fst.Nodup∧(∀ (b:Int),b∈x_1.fst→b∈st)∧x_1.snd=hasS x.p x_1.fst x.l.es st)∧x_1.snd=(0:Int)∧((True∧x.l.total=x.l.total∧True)∧(x.l.es=x.l.es∧st=st∧c=c)∧(x.p=x.p∧True)∧(True∧c=c∧x_1.fst=[]∧c=c)∧True)∧True)∧∀ (x_1:List Int×Int),x_1.fst.Nodup∧(∀ (b:Int),b∈x_1.fst→b∈st)∧x_1.snd=hasS x.p x_1.fst x.l.es st→(∀ (b:Int),b∈st→b<(c:Int))∧(∀ (b:Int),b∈st→b<(c:Int))∧((∀ (b:Int),b∈st→b∈x_1.fst)→hasN x.p x.l.es=x_1.snd∧((True∧x.l.total=x.l.total∧True)∧x.l.es=x.l.es∧True)∧True)∧∀ (j:Nat) (p:AA (71:Nat)×AA (99:Nat)) (b:Int),x.l.es[j]?=some p→st[j]?=some b→¬b∈x_1.fst→c=c∧(∃ (b_1:Int),(x_1.fst++[b]).getLast?=some b_1∧b_1∈st)∧∀ (j:Nat) (p:AA (71:Nat)×AA (99:Nat)) (b_1:Int),(x_1.fst++[b]).getLast?=some b_1→x.l.es[j]?=some p→st[j]?=some b_1→(p.snd.cond=p.snd.cond∧Fn.func (66:FuncId)=Fn.func (66:Nat)∧True∧True∧True)∧((x.p=x.p∧True)∧True)∧True∧(decide (aIdx x.p p.snd.cond (0:Nat)≥(0:Int))=true→inI64 (x_1.snd+p.snd.amount)∧∃ (y:List Int×Int),(y.fst.Nodup∧(∀ (b:Int),b∈y.fst→b∈st)∧y.snd=hasS x.p y.fst x.l.es st)∧st.length-y.fst.length<st.length-x_1.fst.length∧y.snd=x_1.snd+p.snd.amount∧((True∧x.l.total=x.l.total∧True)∧(x.l.es=x.l.es∧st=st∧c=c)∧(x.p=x.p∧True)∧(True∧c=c∧y.fst=x_1.fst++[b]∧c=c)∧True)∧True)∧(decide (aIdx x.p p.snd.cond (0:Nat)≥(0:Int))=false→∃ (y:List Int×Int),(y.fst.Nodup∧(∀ (b:Int),b∈y.fst→b∈st)∧y.snd=hasS x.p y.fst x.l.es st)∧st.length-y.fst.length<st.length-x_1.fst.length∧y.snd=x_1.snd∧((True∧x.l.total=x.l.total∧True)∧(x.l.es=x.l.es∧st=st∧c=c)∧(x.p=x.p∧True)∧(True∧c=c∧y.fst=x_1.fst++[b]∧c=c)∧True)∧True)
theorem lhas_eq:lhasVC=fnS F243 f36 (bodyOf f36) lhasLS lhasAnn:=by kernel_rfl
theorem lhas_vc:lhasVC:=by
 intro x hx st hn hlen c _ _ hb
 have hfew:=hx.few
 refine ⟨⟨([],0),⟨List.nodup_nil,fun b h=>(List.not_mem_nil h).elim,(hasS_nil _ _ _).symm⟩,rfl,⟨⟨trivial,rfl,trivial⟩,⟨rfl,rfl,rfl⟩,⟨rfl,trivial⟩,⟨trivial,rfl,rfl,rfl⟩,trivial⟩,trivial⟩,?_⟩
 rintro ⟨seen,n⟩ ⟨h1,h2,h3⟩
 simp only at h1 h2 h3
 refine ⟨hb,hb,fun h=>⟨?_,⟨⟨trivial,rfl,trivial⟩,rfl,trivial⟩,trivial⟩,fun j p b hj hbj hnb=>⟨rfl,⟨b,by simp,List.mem_of_getElem? hbj⟩,fun j2 p2 b2 hl hj2 hbj2=>?_⟩⟩
 ·rw [h3,hasS_all x.p seen x.l.es st hlen h]
 ·have e:b2=b:=by simpa using hl.symm
  subst e
  have hnb':b2∉seen:=hnb
  have hm:=hasS_more x.p hnb' x.l.es st j2 p2 hn hj2 hbj2
  have hlo:=hasS_lo x.p seen x.l.es st hx.es
  have hp:=hx.es p2 (List.mem_of_getElem? hj2)
  have hnd:(seen++[b2]).Nodup:=by
   rw [List.nodup_append]
   exact ⟨h1,by simp,fun a ha c hc e=>hnb' (by
    have:c=b2:=by simpa using hc
    rw [← this,← e]
    exact ha)⟩
  have hsub:∀ d,d∈seen++[b2]→d∈st:=fun d hd=>by
   rcases List.mem_append.1 hd with hd | hd
   ·exact h2 d hd
   ·have:d=b2:=by simpa using hd
    rw [this]
    exact List.mem_of_getElem? hbj2
  have hle:=sub_le hnd hsub
  rw [List.length_append,List.length_singleton] at hle
  refine ⟨⟨rfl,rfl,trivial,trivial,trivial⟩,⟨⟨rfl,trivial⟩,trivial⟩,trivial,fun h4=>⟨by unfold inI64; simp only; omega,(seen++[b2],n+p2.2.amount),⟨hnd,hsub,?_⟩,by simp only [List.length_append,List.length_singleton]; omega,rfl,⟨⟨trivial,rfl,trivial⟩,⟨rfl,rfl,rfl⟩,⟨rfl,trivial⟩,⟨trivial,rfl,rfl,rfl⟩,trivial⟩,trivial⟩,fun h4=>⟨(seen++[b2],n),⟨hnd,hsub,?_⟩,by simp only [List.length_append,List.length_singleton]; omega,rfl,⟨⟨trivial,rfl,trivial⟩,⟨rfl,rfl,rfl⟩,⟨rfl,trivial⟩,⟨trivial,rfl,rfl,rfl⟩,trivial⟩,trivial⟩⟩
  ·show n+p2.2.amount=hasS x.p (seen++[b2]) x.l.es st
   rw [hm,h3]
   unfold hasV
   rw [if_pos (of_decide_eq_true h4)]
  ·show n=hasS x.p (seen++[b2]) x.l.es st
   rw [hm,h3]
   unfold hasV
   rw [if_neg (of_decide_eq_false h4)]
   omega
theorem lhas_ok:Fits F243 f36 (bodyOf f36) lhasLS lhasAnn:=by
 constructor
 rw [← lhas_eq]
 exact lhas_vc
theorem lhas_has:Has prog 36 f36 (bodyOf f36):=⟨by kernel_rfl,by kernel_rfl,by kernel_rfl⟩
theorem known244:Known prog L244:=by
 unfold L244
 exact known243.lent mixed lhas_has F243_eq lhas_ok (fun _ _=>Nat.le_refl _) (fun h=>by cases h)
end Go.Proofs.YthkffadomgcdaaaGreatDoor

/-! The laws of waiting: what is said. Conditions: none. -/
namespace Go.Proofs.YthkffadomgcdaaaGreatDoor
open Go Go.Eng Go.Proofs.Tryz
noncomputable def L250:List (Nat×SpecT AA):=(23,tLent (lcheckLS bnil) spGet)::L230
noncomputable def L251:List (Nat×SpecT AA):=(11,tLent applyLS spGet)::L250
noncomputable def L252:List (Nat×SpecT AA):=(36,tLent lhasLS lhasGet)::L251
noncomputable def F252:Eng AA:=EF prog L252
theorem F252_eq:F252=EF prog L252:=by
 unfold F252
 rfl
noncomputable def L253:List (Nat×SpecT AA):=(16,tLent sureLS sureGet)::L252
noncomputable def L254:List (Nat×SpecT AA):=(23,tLent (lcheckLS .junk) spGet)::L230
noncomputable def L255:List (Nat×SpecT AA):=(16,tLent sureLS sureGet)::L254
noncomputable def F255:Eng AA:=EF prog L255
theorem F255_eq:F255=EF prog L255:=by
 unfold F255
 rfl
theorem known252:Known prog L252:=by
 unfold L252
 refine known244.over _ _ rfl ?_
 unfold L251
 refine known234.over _ _ rfl ?_
 unfold L250
 exact known233N.over _ _ rfl known230
theorem known254:Known prog L254:=by
 unfold L254
 exact known233J.over _ _ rfl known230
structure WaX where
 after:Int
 older:Int
 m:Int
 h:Int
def lwaitsLS:LS AA where
 X:=WaX
 pre:=fun _=>True
 args:=fun x=>[.int .i64 x.after,.int .i64 x.older,.agg (.cell (.int .i64 x.m) (.cell (.int .i64 x.h) .nil))]
 hin:=fun _=>[]
 res:=fun _=>[.sb 0 true]
 hout:=fun _=>[]
end Go.Proofs.YthkffadomgcdaaaGreatDoor

/-! The laws of waiting: plain facts. Conditions: none. -/
namespace Go.Proofs.YthkffadomgcdaaaGreatDoor
open Go Go.Eng Go.Proofs.Tryz
def bOf (n:Int):List Br:=[⟨[n],List.replicate 32 0,0,0⟩]
theorem allOf_one (n:Int):allOf [n]=bOf n:=by
 have e1:sortI [n]=[n]:=by simp [sortI]
 have e2:Lib.compact [n]=[n]:=by simp [Lib.compact,Lib.compactUpTo,Lib.keeps,List.range,List.range.loop]
 unfold allOf bOf
 rw [e1,e2]
open Classical in
theorem fine_one {k a o:Int} (hk:0≤k∧k<16) (ha:0≤a∧a≤1000) (ho:0≤o∧o≤1000):fineB [⟨[k],List.replicate 32 0,a,o⟩]=true:=by
 unfold fineB
 have hF:Fine [⟨[k],List.replicate 32 0,a,o⟩]:=⟨by simp,by simp,?_⟩
 ·exact decide_eq_true hF
 simp only [firstOdd]
 rw [if_pos ?_]
 ·omega
 ·unfold mayB
  have hM:May ⟨[k],List.replicate 32 0,a,o⟩:=⟨?_,by simp,ha.1,?_,ho.1,?_⟩
  ·exact decide_eq_true hM
  ·intro i hi
   have hi':i<1:=hi
   have:i=0:=by omega
   subst this
   exact ⟨hk.1,hk.2,.inl rfl⟩
  ·show a≤_
   omega
  ·show o≤_
   omega
theorem opens_one {k a o h g:Int} {sg:List Int} (hk:0≤k∧k<16) (ha:0≤a∧a≤1000) (ho:0≤o∧o≤1000) :
  opensB [⟨[k],List.replicate 32 0,a,o⟩] 0 ⟨sg,[],h,g⟩=if k∈sg then (if h<a∨g<o then 23 else 0) else 21:=by
 unfold opensB opensN
 rw [fine_one hk ha ho]
 simp only [cond_true,List.length_singleton]
 rw [if_neg (by omega)]
 show (if missIdx sg [k] 0≥0 then (21:Int) else _)=_
 by_cases hs:k∈sg
 ·rw [if_pos hs]
  have:missIdx sg [k] 0 = -1:=by simp [missIdx,hs]
  rw [this,if_neg (by omega)]
  have:¬(List.replicate 32 (0:Int)≠zeros32∧List.replicate 32 (0:Int)≠sumB orderL []):=fun h=>h.1 rfl
  show (if List.replicate 32 (0:Int)≠zeros32∧List.replicate 32 (0:Int)≠sumB orderL [] then (22:Int) else _)=_
  rw [if_neg this]
 ·rw [if_neg hs]
  have:missIdx sg [k] 0=0:=by simp [missIdx,hs]
  rw [this,if_pos (by omega)]
theorem checkT_ok {l:List TOut} (h1:1≤l.length∧l.length≤64) (h2:outsE l=0) (h3:(totG l 0).2=0):checkT ⟨0,[zIn],l⟩=0:=by
 unfold checkT
 have e1:someB (([zIn]:List TIn).length:Int)=true:=by decide
 have e2:someB (l.length:Int)=true:=by
  unfold someB
  rw [decide_eq_true (by omega),decide_eq_true (by omega)]
  rfl
 have e3:badIn [zIn] 0 = -1:=by decide
 rw [if_neg (by
  show ¬((0:Int)<0∨(0:Int)>1099511627776∨someB (([zIn]:List TIn).length:Int)=false∨someB (l.length:Int)=false∨badIn [zIn] 0≥0)
  rw [e1,e2,e3]
  simp),if_neg (by simp),if_neg (by simpa using h2)]
 exact h3
theorem outE_one {k n a o:Int} (hn:10≤n∧n≤1000) (hk:0≤k∧k<16) (ha:0≤a∧a≤1000) (ho:0≤o∧o≤1000):outE ⟨n,[⟨[k],List.replicate 32 0,a,o⟩]⟩=0:=by
 unfold outE
 rw [if_neg (show ¬n<10 by omega),if_neg (show ¬n>1125899906842624 by omega)]
 unfold checkN
 show cond (fineB _) 0 1=(0:Int)
 rw [fine_one hk ha ho]
 rfl
theorem outs_one {o:TOut} (h:outE o=0) {l:List TOut} (hl:outsE l=0):outsE (o::l)=0:=by
 simp only [outsE]
 rw [if_pos h,hl]
theorem mfind_one (k:Pt) (v:EntD):mfind k [(k,v)]=some (0,v):=by
 simp [mfind]
theorem mfind_other {k j:Pt} (v:EntD) (h:j≠k):mfind k [(j,v)]=none:=by
 simp [mfind,h]
def lg0:LgX:=⟨[],0⟩
def pt0:Pt:=⟨List.replicate 32 0,0⟩
theorem mint_one {a o m:Int} (ha:0≤a∧a≤1000) (ho:0≤o∧o≤1000) (hm:0≤m∧m≤1000) :
  mintE ⟨lg0,pt0,⟨50,[⟨[1],List.replicate 32 0,a,o⟩]⟩,m⟩=0∧mintL ⟨lg0,pt0,⟨50,[⟨[1],List.replicate 32 0,a,o⟩]⟩,m⟩=⟨[(pt0,⟨50,[⟨[1],List.replicate 32 0,a,o⟩],m⟩)],50⟩:=by
 have hE:=outE_one (k:=1) (n:=50) (a:=a) (o:=o) (by omega) (by omega) ha ho
 have hT:checkT ⟨0,[zIn],[⟨50,[⟨[1],List.replicate 32 0,a,o⟩]⟩]⟩=0:=checkT_ok ⟨by simp,by simp⟩ (outs_one hE rfl) (by simp [totG])
 have hH:heightB m=true:=by
  unfold heightB
  rw [decide_eq_true (by omega),decide_eq_true (by omega)]
  rfl
 have e:mintE ⟨lg0,pt0,⟨50,[⟨[1],List.replicate 32 0,a,o⟩]⟩,m⟩=0:=by
  unfold mintE
  simp only
  rw [hH,hT]
  simp [lg0,mfind]
 refine ⟨e,?_⟩
 unfold mintL
 rw [if_pos e]
 rfl
theorem signed_one (id:List Int):signedOf [(id,[1])] id=[1]:=by
 unfold signedOf
 simp [mfind]
theorem spend_one {a o m h:Int} {t:TxD} {b:List (List Int×List Int)} (ha:0≤a∧a≤1000) (ho:0≤o∧o≤1000) (ht:t.ins=[zIn]) {l:LgX} (hl:l.es=[(pt0,⟨50,[⟨[1],List.replicate 32 0,a,o⟩],m⟩)]) :
  spendR ⟨l,t,h,b⟩=if (1:Int)∈signedOf b (idB t) then (if h<a∨max (h-m) 0<o then (0,23) else (50,0)) else (0,21):=by
 unfold spendR sgOf
 simp only [ht,hl]
 have hp:Pt.mk zIn.tx zIn.n=pt0:=rfl
 simp only [spendG,hp,mfind_one]
 have hb:zIn.branch=0:=rfl
 have hs:zIn.secret=[]:=rfl
 rw [hb,hs,opens_one (by omega) ha ho]
 split
 ·split
  ·rw [if_pos (by omega)]
  ·rw [if_neg (by omega)]
   rfl
 ·rw [if_pos (by omega)]
theorem any_none {id:List Int} (hid:id≠List.replicate 32 0) (v:EntD) (n:Nat):anyAt [(pt0,v)] id n=false:=by
 unfold anyAt
 refine decide_eq_false ?_
 rintro ⟨i,_,h⟩
 exact h (mfind_other v fun e=>hid (by
  have:=congrArg Pt.tx e
  exact this.symm))
def WaX.a (x:WaX):Int:=wr IntKind.i64 ((wr IntKind.u64 x.after).tmod 30)
def WaX.o (x:WaX):Int:=wr IntKind.i64 ((wr IntKind.u64 x.older).tmod 30)
def WaX.q (x:WaX):Int:=wr IntKind.i64 ((wr IntKind.u64 x.m).tmod 20)
def WaX.t (x:WaX):Int:=wr IntKind.i64 ((wr IntKind.u64 x.h).tmod 60)
theorem wr_mod (n:Int) {k:Int} (hk:0<k∧k≤1000):0≤wr .i64 ((wr .u64 n).tmod k)∧wr .i64 ((wr .u64 n).tmod k)<k:=by
 have h0:0≤wr .u64 n:=by
  rw [wr64u]
  omega
 have e:(wr .u64 n).tmod k=wr .u64 n%k:=Int.tmod_eq_emod_of_nonneg h0
 have h1:=Int.emod_nonneg (wr .u64 n) (show k≠0 by omega)
 have h2:=Int.emod_lt_of_pos (wr .u64 n) (show 0<k by omega)
 rw [e,wr64 (by unfold inI64; omega)]
 exact ⟨h1,h2⟩
noncomputable def wTx:TxD:=⟨0,[⟨List.replicate 32 0,0,0,[]⟩],[⟨50,allOf [2]⟩]⟩
def WaX.out (x:WaX):TOut:=⟨50,[⟨[1],List.replicate 32 0,x.a,x.o⟩]⟩
def WaX.mi (x:WaX):MintX:=⟨lg0,pt0,x.out,x.q⟩
noncomputable def WaX.sp (x:WaX):SpX:=⟨mintL x.mi,wTx,x.t,[]++[(idB wTx,[1])]⟩
theorem wTx_eq:wTx=⟨0,[⟨List.replicate 32 0,0,0,[]⟩],[⟨50,bOf 2⟩]⟩:=by
 unfold wTx
 rw [allOf_one]
theorem wTx_id:idB wTx≠List.replicate 32 0:=by
 have h:(sumB orderL (putTx (fun _=>[]) ⟨0,[⟨List.replicate 32 0,0,0,[]⟩],[⟨50,bOf 2⟩]⟩)).getD 0 0=56:=by decide +kernel
 intro e
 rw [wTx_eq] at e
 unfold idB at e
 rw [e] at h
 exact absurd h (by decide)
theorem tx_ok {l:List TOut} (h1:l.length≤10) (h2:sumW l≤1000) (h3:∀ o,o∈l→∃ n,o.cond=bOf n):TxOk ⟨0,[⟨List.replicate 32 0,0,0,[]⟩],l⟩ where
 n:=by simp
 m:=by
  show l.length≤_
  omega
 w:=by
  show sumW l≤_
  omega
 tx:=fun x hx=>by
  have:x=⟨List.replicate 32 0,0,0,[]⟩:=by simpa using hx
  subst this
  exact ⟨by simp,fun y hy=>by
   have:=List.eq_of_mem_replicate hy
   omega⟩
 locks:=fun o ho=>by
  obtain ⟨n,e⟩:=h3 o ho
  rw [e]
  unfold Locks bOf
  refine ⟨fun b hb=>?_,fun b hb y hy=>?_⟩
  ·have:b=⟨[n],List.replicate 32 0,0,0⟩:=by simpa using hb
   subst this
   simp
  ·have:b=⟨[n],List.replicate 32 0,0,0⟩:=by simpa using hb
   subst this
   have:=List.eq_of_mem_replicate hy
   omega
theorem wTx_ok:TxOk wTx:=by
 rw [wTx_eq]
 exact tx_ok (by simp) (by decide) fun o ho=>⟨2,by
  have:o=⟨50,bOf 2⟩:=by simpa using ho
  rw [this]⟩
theorem wTx_check:checkT wTx=0:=by
 rw [wTx_eq]
 have h:=outE_one (k:=2) (n:=50) (a:=0) (o:=0) (by omega) (by omega) (by omega) (by omega)
 exact checkT_ok ⟨by simp,by simp⟩ (outs_one h rfl) (by simp [totG])
theorem wa_mint (x:WaX):mintE x.mi=0∧mintL x.mi=⟨[(pt0,⟨50,x.out.cond,x.q⟩)],50⟩:=by
 have ha:=wr_mod x.after (k:=30) (by omega)
 have ho:=wr_mod x.older (k:=30) (by omega)
 have hq:=wr_mod x.m (k:=20) (by omega)
 exact mint_one (a:=x.a) (o:=x.o) (m:=x.q) ⟨ha.1,by show wr _ _≤_; omega⟩ ⟨ho.1,by show wr _ _≤_; omega⟩ ⟨hq.1,by show wr _ _≤_; omega⟩
theorem wa_check (x:WaX):(checkF x.sp).2=if x.t<x.a∨max (x.t-x.q) 0<x.o then 23 else 0:=by
 have ha:=wr_mod x.after (k:=30) (by omega)
 have ho:=wr_mod x.older (k:=30) (by omega)
 have ht:=wr_mod x.h (k:=60) (by omega)
 change 0≤x.a∧x.a<30 at ha
 change 0≤x.o∧x.o<30 at ho
 change 0≤x.t∧x.t<60 at ht
 have hm:=(wa_mint x).2
 have hH:heightB x.t=true:=by
  unfold heightB
  rw [decide_eq_true (by omega),decide_eq_true (by omega)]
  rfl
 have hs:spendR x.sp=if x.t<x.a∨max (x.t-x.q) 0<x.o then (0,23) else (50,0):=by
  have h:=spend_one (a:=x.a) (o:=x.o) (m:=x.q) (h:=x.t) (t:=wTx) (b:=[(idB wTx,[1])]) ⟨ha.1,by omega⟩ ⟨ho.1,by omega⟩ rfl (l:=mintL x.mi) (by rw [hm]; rfl)
  rw [signed_one,if_pos (by simp)] at h
  exact h
 have hto:totG wTx.outs 0=(50,0):=by
  rw [wTx_eq]
  simp [totG]
 have hl:wTx.lock=0:=rfl
 have hn:anyAt (mintL x.mi).es (idB wTx) wTx.outs.length=false:=by
  rw [hm]
  exact any_none wTx_id _ _
 unfold checkF
 rw [hs]
 simp only [WaX.sp,hto,hn,hl,wTx_check,hH]
 rw [if_neg (by simp),if_neg (by simp),if_neg (by omega)]
 split
 ·rw [if_pos (by simp)]
 ·rw [if_neg (by simp),if_neg (by simp),if_neg (by simp),if_neg (by simp)]
theorem wa_ok (x:WaX):x.sp.Ok where
 t:=wTx_ok
 sec:=fun y hy=>by
  have:y=⟨List.replicate 32 0,0,0,[]⟩:=by
   have h:y∈wTx.ins:=hy
   rw [wTx_eq] at h
   simpa using h
  subst this
  exact ⟨fun z hz=>by simp at hz,by simp⟩
 es:=fun p hp=>by
  have h:p∈(mintL x.mi).es:=hp
  rw [(wa_mint x).2] at h
  have:p=(pt0,⟨50,x.out.cond,x.q⟩):=by simpa using h
  subst this
  have hq:=wr_mod x.m (k:=20) (by omega)
  change 0≤x.q∧x.q<20 at hq
  exact ⟨⟨by show (0:Int)≤50; omega,by show (50:Int)≤_; omega⟩,by show 0≤x.q; omega,by show x.q≤_; omega⟩
 b:=⟨fun j z h=>by
  have h:mfind (idB wTx) [(idB wTx,[1])]=some (j,z):=h
  have e:mfind (idB wTx) [(idB wTx,([1]:List Int))]=some (0,[1]):=by simp [mfind]
  rw [e] at h
  cases h
  simp⟩
noncomputable def sTx:TxD:=⟨0,[⟨List.replicate 32 0,0,0,[]⟩],[⟨30,allOf [2]⟩,⟨15,allOf [1]⟩]⟩
noncomputable def sOut:TOut:=⟨50,allOf [1]⟩
noncomputable def sMi:MintX:=⟨lg0,pt0,sOut,0⟩
noncomputable def sLg:LgX:=mintL sMi
noncomputable def sSp:SpX:=⟨sLg,sTx,1,[]⟩
noncomputable def sSq:SpX:=⟨sLg,sTx,1,[]++[(idB sTx,[1])]⟩
theorem sTx_eq:sTx=⟨0,[⟨List.replicate 32 0,0,0,[]⟩],[⟨30,bOf 2⟩,⟨15,bOf 1⟩]⟩:=by
 unfold sTx
 rw [allOf_one,allOf_one]
theorem sTx_id:idB sTx≠List.replicate 32 0:=by
 have h:(sumB orderL (putTx (fun _=>[]) ⟨0,[⟨List.replicate 32 0,0,0,[]⟩],[⟨30,bOf 2⟩,⟨15,bOf 1⟩]⟩)).getD 0 0=94:=by decide +kernel
 intro e
 rw [sTx_eq] at e
 unfold idB at e
 rw [e] at h
 exact absurd h (by decide)
theorem sTx_ok:TxOk sTx:=by
 rw [sTx_eq]
 refine tx_ok (by simp) (by decide) fun o ho=>?_
 simp only [List.mem_cons,List.not_mem_nil,or_false] at ho
 rcases ho with h | h
 ·exact ⟨2,by rw [h]⟩
 ·exact ⟨1,by rw [h]⟩
theorem sTx_check:checkT sTx=0:=by
 rw [sTx_eq]
 have h:=outE_one (k:=2) (n:=30) (a:=0) (o:=0) (by omega) (by omega) (by omega) (by omega)
 have h2:=outE_one (k:=1) (n:=15) (a:=0) (o:=0) (by omega) (by omega) (by omega) (by omega)
 exact checkT_ok ⟨by simp,by simp⟩ (outs_one h (outs_one h2 rfl)) (by simp [totG])
theorem s_mint:mintE sMi=0∧sLg=⟨[(pt0,⟨50,bOf 1,0⟩)],50⟩:=by
 have h:=mint_one (a:=0) (o:=0) (m:=0) (by omega) (by omega) (by omega)
 unfold sLg sMi sOut
 rw [allOf_one]
 exact h
theorem s_tot:totG sTx.outs 0=(45,0):=by
 rw [sTx_eq]
 simp [totG]
theorem s_any:anyAt sLg.es (idB sTx) sTx.outs.length=false:=by
 rw [s_mint.2]
 exact any_none sTx_id _ _
theorem s_h1:heightB 1=true:=by decide
theorem s_check:(checkF sSp).2=21∧checkF sSq=(5,0):=by
 have hn:signedOf [] (idB sTx)=[]:=rfl
 have h1:=spend_one (a:=0) (o:=0) (m:=0) (h:=1) (t:=sTx) (b:=[]) (by omega) (by omega) rfl (l:=sLg) (by rw [s_mint.2]; rfl)
 have h2:=spend_one (a:=0) (o:=0) (m:=0) (h:=1) (t:=sTx) (b:=[(idB sTx,[1])]) (by omega) (by omega) rfl (l:=sLg) (by rw [s_mint.2]; rfl)
 rw [hn,if_neg (by simp)] at h1
 rw [signed_one,if_pos (by simp),if_neg (by omega)] at h2
 have hl:sTx.lock=0:=rfl
 change spendR sSp=_ at h1
 change spendR sSq=_ at h2
 constructor
 ·unfold checkF
  rw [h1]
  simp only [sSp,s_tot,s_any,hl,sTx_check,s_h1]
  rw [if_neg (by simp),if_neg (by simp),if_neg (by omega),if_pos (by simp)]
 ·unfold checkF
  rw [h2]
  simp only [sSq,s_tot,s_any,hl,sTx_check,s_h1]
  rw [if_neg (by simp),if_neg (by simp),if_neg (by omega),if_neg (by simp),if_neg (by simp),if_neg (by simp),if_neg (by simp)]
  rfl
theorem s_apply:applyL sSq=⟨[(⟨idB sTx,0⟩,⟨30,bOf 2,1⟩),(⟨idB sTx,1⟩,⟨15,bOf 1,1⟩)],45⟩:=by
 unfold applyL
 rw [s_check.2,if_pos rfl]
 have hi:sSq.t.ins=[zIn]:=rfl
 have ho:sSq.t.outs=[⟨30,bOf 2⟩,⟨15,bOf 1⟩]:=by
  show sTx.outs=_
  rw [sTx_eq]
 have he:sSq.l=⟨[(pt0,⟨50,bOf 1,0⟩)],50⟩:=s_mint.2
 have hd:delI sSq.l.es sSq.t.ins=[]:=by
  rw [he,hi]
  have hp:Pt.mk zIn.tx zIn.n=pt0:=rfl
  simp only [delI,hp]
  unfold delM
  rw [mfind_one]
  rfl
 have h01:(Pt.mk (idB sTx) 0)≠Pt.mk (idB sTx) 1:=fun e=>by
  have:=congrArg Pt.n e
  exact absurd this (by decide)
 rw [hd,ho,he]
 simp only [setO]
 have hn:mfind (Pt.mk (idB sSq.t) ((0:Nat):Int)) ([]:List (Pt×EntD))=none:=rfl
 have h0:setM [] (Pt.mk (idB sSq.t) ((0:Nat):Int)) ⟨30,bOf 2,sSq.h⟩=[(Pt.mk (idB sTx) 0,⟨30,bOf 2,1⟩)]:=rfl
 rw [h0]
 have h1:setM [(Pt.mk (idB sTx) 0,⟨30,bOf 2,1⟩)] (Pt.mk (idB sSq.t) ((0+1:Nat):Int)) ⟨15,bOf 1,sSq.h⟩=[(⟨idB sTx,0⟩,⟨30,bOf 2,1⟩),(⟨idB sTx,1⟩,⟨15,bOf 1,1⟩)]:=by
  unfold setM
  rw [show mfind (Pt.mk (idB sSq.t) ((0+1:Nat):Int)) [(Pt.mk (idB sTx) 0,(⟨30,bOf 2,1⟩:EntD))]=none from mfind_other _ h01]
  rfl
 rw [h1]
 rfl
theorem s_has:hasN 2 (applyL sSq).es=30:=by
 rw [s_apply]
 decide
theorem s_ok (b:List (List Int×List Int)) (hb:(⟨b,idB sTx⟩:WhoX).Ok):SpX.Ok ⟨sLg,sTx,1,b⟩ where
 t:=sTx_ok
 sec:=fun y hy=>by
  have:y=⟨List.replicate 32 0,0,0,[]⟩:=by
   have h:y∈sTx.ins:=hy
   rw [sTx_eq] at h
   simpa using h
  subst this
  exact ⟨fun z hz=>by simp at hz,by simp⟩
 es:=fun p hp=>by
  have h:p∈sLg.es:=hp
  rw [s_mint.2] at h
  have:p=(pt0,⟨50,bOf 1,0⟩):=by simpa using h
  subst this
  exact ⟨⟨by show (0:Int)≤50; omega,by show (50:Int)≤_; omega⟩,by show (0:Int)≤0; omega,by show (0:Int)≤_; omega⟩
 b:=hb
theorem s_ok0:sSp.Ok:=s_ok [] ⟨fun j z h=>by cases h⟩
theorem s_do:sSq.Do where
 toOk:=s_ok _ ⟨fun j z h=>by
  have h:mfind (idB sTx) [(idB sTx,[1])]=some (j,z):=h
  have e:mfind (idB sTx) [(idB sTx,([1]:List Int))]=some (0,[1]):=by simp [mfind]
  rw [e] at h
  cases h
  simp⟩
 lo:=by
  show 0≤sLg.total
  rw [s_mint.2]
  show (0:Int)≤50
  omega
 hi:=by
  show sLg.total≤_
  rw [s_mint.2]
  show (50:Int)≤_
  omega
 w:=fun o ho=>by
  have h:o∈sTx.outs:=ho
  rw [sTx_eq] at h
  simp only [List.mem_cons,List.not_mem_nil,or_false] at h
  rcases h with h | h
  ·rw [h]; decide
  ·rw [h]; decide
theorem s_hasOk:(HasX.mk (applyL sSq) 2).Ok where
 es:=fun p hp=>by
  have h:p∈(applyL sSq).es:=hp
  rw [s_apply] at h
  simp only [List.mem_cons,List.not_mem_nil,or_false] at h
  rcases h with h | h
  ·rw [h]
   exact ⟨by show (0:Int)≤30; omega,by show (30:Int)≤_; omega⟩
  ·rw [h]
   exact ⟨by show (0:Int)≤15; omega,by show (15:Int)≤_; omega⟩
 few:=by
  show (applyL sSq).es.length≤_
  rw [s_apply]
  simp
theorem mint_ok0 {o:TOut} {h:Int} (hw:weight o.cond≤300):(MintX.mk lg0 pt0 o h).Ok where
 w:=hw
 lo:=Int.le_refl _
 hi:=by
  show (0:Int)≤_
  omega
 tx:=by
  show (List.replicate 32 (0:Int)).length=32
  simp
end Go.Proofs.YthkffadomgcdaaaGreatDoor

/-! The laws of waiting: the walks. Conditions: none. -/
namespace Go.Proofs.YthkffadomgcdaaaGreatDoor
open Go Go.Eng Go.Proofs.Tryz
def lsureVC:Prop:=∀ (_:Unit),True→True∧True∧True∧True∧True∧True∧[(1:Int)]=[(1:Int)]∧True∧[(1:Int)].length.le (1000000:Nat)∧(True∧(List.replicate (32:Nat) (0:Int)=List.replicate (32:Nat) (0:Int)∧(0:Int)=(0:Int)∧True)∧((50:Int)=(50:Int)∧allOf [(1:Int)]=allOf [(1:Int)]∧True)∧(0:Int)=(0:Int))∧((True∧(0:Int)=(0:Int)∧True)∧([]:List (Pt×EntD))=[]∧True)∧sMi.Ok∧(List.replicate (32:Nat) (0:Int)=List.replicate (32:Nat) (0:Int)∧(0:Int)=(0:Int)∧(0:Int)=(0:Int)∧([]:List Int)=[]∧True)∧[(2:Int)]=[(2:Int)]∧True∧[(2:Int)].length.le (1000000:Nat)∧[(1:Int)]=[(1:Int)]∧True∧[(1:Int)].length.le (1000000:Nat)∧((30:Int)=(30:Int)∧allOf [(2:Int)]=allOf [(2:Int)]∧True)∧((15:Int)=(15:Int)∧allOf [(1:Int)]=allOf [(1:Int)]∧True)∧(True∧((0:Int)=(0:Int)∧[TIn.mk (List.replicate (32:Nat) (0:Int)) (0:Int) (0:Int) []]=[TIn.mk (List.replicate (32:Nat) (0:Int)) (0:Int) (0:Int) []]∧[TOut.mk (30:Int) (allOf [(2:Int)]),TOut.mk (15:Int) (allOf [(1:Int)])]=[TOut.mk (30:Int) (allOf [(2:Int)]),TOut.mk (15:Int) (allOf [(1:Int)])]∧True)∧(1:Int)=(1:Int)∧True)∧((True∧sLg.total=sLg.total∧True)∧sLg.es=sLg.es∧(True∧bnil=bnil∧bnil=bnil∧bnil=bnil∧bnil=bnil∧bnil=bnil∧bnil=bnil∧bnil=bnil∧bnil=bnil∧bnil=bnil∧bnil=bnil∧bnil=bnil∧bnil=bnil∧bnil=bnil∧bnil=bnil∧bnil=bnil∧bnil=bnil∧True)∧([]:List (List Int×List Int))=[]∧True)∧sSp.Ok∧((0:Int)=(0:Int)∧[TIn.mk (List.replicate (32:Nat) (0:Int)) (0:Int) (0:Int) []]=[TIn.mk (List.replicate (32:Nat) (0:Int)) (0:Int) (0:Int) []]∧[TOut.mk (30:Int) (allOf [(2:Int)]),TOut.mk (15:Int) (allOf [(1:Int)])]=[TOut.mk (30:Int) (allOf [(2:Int)]),TOut.mk (15:Int) (allOf [(1:Int)])]∧True)∧True∧TxOk sTx∧(True∧(1:Int)=(1:Int)∧idB sTx=idB sTx∧True)∧((True∧bnil=bnil∧bnil=bnil∧bnil=bnil∧bnil=bnil∧bnil=bnil∧bnil=bnil∧bnil=bnil∧bnil=bnil∧bnil=bnil∧bnil=bnil∧bnil=bnil∧bnil=bnil∧bnil=bnil∧bnil=bnil∧bnil=bnil∧bnil=bnil∧True)∧([]:List (List Int×List Int))=[]∧True)∧(SignX.mk [] (idB sTx)).Ok∧(True∧((0:Int)=(0:Int)∧[TIn.mk (List.replicate (32:Nat) (0:Int)) (0:Int) (0:Int) []]=[TIn.mk (List.replicate (32:Nat) (0:Int)) (0:Int) (0:Int) []]∧[TOut.mk (30:Int) (allOf [(2:Int)]),TOut.mk (15:Int) (allOf [(1:Int)])]=[TOut.mk (30:Int) (allOf [(2:Int)]),TOut.mk (15:Int) (allOf [(1:Int)])]∧True)∧(1:Int)=(1:Int)∧True)∧((True∧sLg.total=sLg.total∧True)∧sLg.es=sLg.es∧(True∧True∧True∧True∧True∧True∧True∧True∧True∧True∧True∧True∧True∧True∧True∧True∧True∧True)∧[]++[(idB sTx,[(1:Int)])]=[]++[(idB sTx,[(1:Int)])]∧True)∧sSq.Do∧((mintE sMi==(0:Int))=true→(((checkF sSp).snd==(21:Int))=true→(((0:Int)==(0:Int))=true→(((checkF sSq).snd==(0:Int))=true→(((checkF sSq).fst==(5:Int))=true→(True∧(2:Int)=(2:Int))∧((True∧(applyL sSq).total=(applyL sSq).total∧True)∧(applyL sSq).es=(applyL sSq).es∧True)∧(HasX.mk (applyL sSq) (2:Int)).Ok∧((hasN (2:Int) (applyL sSq).es==(30:Int))=true→True∧((True∧(applyL sSq).total=(applyL sSq).total∧True)∧(applyL sSq).es=(applyL sSq).es∧True)∧True∧true=((applyL sSq).total==(45:Int))∧True∧True)∧((hasN (2:Int) (applyL sSq).es==(30:Int))=false→true=false∧True∧True))∧(((checkF sSq).fst==(5:Int))=false→true=false∧True∧True))∧(((checkF sSq).snd==(0:Int))=false→true=false∧True∧True))∧(((0:Int)==(0:Int))=false→true=false∧True∧True))∧(((checkF sSp).snd==(21:Int))=false→true=false∧True∧True))∧((mintE sMi==(0:Int))=false→true=false∧True∧True) 
theorem lsure_eq:lsureVC=fnS F252 f16 (bodyOf f16) sureLS noAnn:=by kernel_rfl
theorem lsure_vc:lsureVC:=by
 intro _ _
 have ht:sSq=SpX.mk sLg sTx 1 ([]++[(idB sTx,[1])]):=rfl
 refine ⟨trivial,trivial,trivial,trivial,trivial,trivial,rfl,trivial,Nat.le_of_ble_eq_true rfl,⟨trivial,⟨rfl,rfl,trivial⟩,⟨rfl,rfl,trivial⟩,rfl⟩,⟨⟨trivial,rfl,trivial⟩,rfl,trivial⟩,mint_ok0 ?_,
  ⟨rfl,rfl,rfl,rfl,trivial⟩,rfl,trivial,Nat.le_of_ble_eq_true rfl,rfl,trivial,Nat.le_of_ble_eq_true rfl,⟨rfl,rfl,trivial⟩,⟨rfl,rfl,trivial⟩,⟨trivial,⟨rfl,rfl,rfl,trivial⟩,rfl,trivial⟩,
  ⟨⟨trivial,rfl,trivial⟩,rfl,bk16_ok rfl,rfl,trivial⟩,s_ok0,⟨rfl,rfl,rfl,trivial⟩,trivial,sTx_ok,⟨trivial,rfl,rfl,trivial⟩,⟨bk16_ok rfl,rfl,trivial⟩,⟨rfl⟩,
  ⟨trivial,⟨rfl,rfl,rfl,trivial⟩,rfl,trivial⟩,⟨⟨trivial,rfl,trivial⟩,rfl,bk16_ok trivial,rfl,trivial⟩,s_do,fun _=>⟨fun _=>⟨fun _=>⟨fun _=>⟨fun _=>⟨⟨trivial,rfl⟩,⟨⟨trivial,rfl,trivial⟩,rfl,trivial⟩,s_hasOk,
   fun _=>⟨trivial,⟨⟨trivial,rfl,trivial⟩,rfl,trivial⟩,trivial,?_,trivial,trivial⟩,fun h=>?_⟩,fun h=>?_⟩,fun h=>?_⟩,fun h=>?_⟩,fun h=>?_⟩,fun h=>?_⟩
 ·show weight (allOf [1])≤300
  rw [allOf_one]
  decide
 ·rw [s_apply]
  rfl
 ·rw [s_has] at h
  exact absurd h (by decide)
 ·rw [s_check.2] at h
  exact absurd h (by decide)
 ·rw [s_check.2] at h
  exact absurd h (by decide)
 ·exact absurd h (by decide)
 ·rw [s_check.1] at h
  exact absurd h (by decide)
 ·rw [s_mint.1] at h
  exact absurd h (by decide)
theorem lsure_ok:Fits F252 f16 (bodyOf f16) sureLS noAnn:=by
 constructor
 rw [← lsure_eq]
 exact lsure_vc
theorem lsure_has:Has prog 16 f16 (bodyOf f16):=⟨by kernel_rfl,by kernel_rfl,by kernel_rfl⟩
theorem known253:Known prog L253:=by
 unfold L253
 exact known252.lent mixed lsure_has F252_eq lsure_ok (fun _ _=>Nat.zero_le _) (fun _ _=>rfl)
theorem known255:Known prog L255:=by
 unfold L255
 exact known253.over _ _ rfl known254
def lwaitsVC:Prop:=∀ (x:WaX),True→True∧True∧True∧True∧True∧True∧(30:Int)≠(0:Int)∧(30:Int)≠(0:Int)∧(20:Int)≠(0:Int)∧(60:Int)≠(0:Int)∧([(1:Int)]=[(1:Int)]∧List.replicate (32:Nat) (0:Int)=List.replicate (32:Nat) (0:Int)∧x.a=x.a∧x.o=x.o∧True)∧(True∧(List.replicate (32:Nat) (0:Int)=List.replicate (32:Nat) (0:Int)∧(0:Int)=(0:Int)∧True)∧((50:Int)=(50:Int)∧[Br.mk [(1:Int)] (List.replicate (32:Nat) (0:Int)) x.a x.o]=[Br.mk [(1:Int)] (List.replicate (32:Nat) (0:Int)) x.a x.o]∧True)∧x.q=x.q)∧((True∧(0:Int)=(0:Int)∧True)∧([]:List (Pt×EntD))=[]∧True)∧x.mi.Ok∧((!mintE x.mi==(0:Int))=true→true=false∧True∧True)∧((!mintE x.mi==(0:Int))=false→(List.replicate (32:Nat) (0:Int)=List.replicate (32:Nat) (0:Int)∧(0:Int)=(0:Int)∧(0:Int)=(0:Int)∧([]:List Int)=[]∧True)∧[(2:Int)]=[(2:Int)]∧True∧[(2:Int)].length.le (1000000:Nat)∧((50:Int)=(50:Int)∧allOf [(2:Int)]=allOf [(2:Int)]∧True)∧((0:Int)=(0:Int)∧[TIn.mk (List.replicate (32:Nat) (0:Int)) (0:Int) (0:Int) []]=[TIn.mk (List.replicate (32:Nat) (0:Int)) (0:Int) (0:Int) []]∧[TOut.mk (50:Int) (allOf [(2:Int)])]=[TOut.mk (50:Int) (allOf [(2:Int)])]∧True)∧True∧TxOk wTx∧(True∧(1:Int)=(1:Int)∧idB wTx=idB wTx∧True)∧((True∧bnil=bnil∧bnil=bnil∧bnil=bnil∧bnil=bnil∧bnil=bnil∧bnil=bnil∧bnil=bnil∧bnil=bnil∧bnil=bnil∧bnil=bnil∧bnil=bnil∧bnil=bnil∧bnil=bnil∧bnil=bnil∧bnil=bnil∧bnil=bnil∧True)∧([]:List (List Int×List Int))=[]∧True)∧(SignX.mk [] (idB wTx)).Ok∧((!(0:Int)==(0:Int))=true→true=false∧True∧True)∧((!(0:Int)==(0:Int))=false→inI64 (x.t-x.q)∧(decide (x.t-x.q<(0:Int))=true→(True∧((0:Int)=(0:Int)∧[TIn.mk (List.replicate (32:Nat) (0:Int)) (0:Int) (0:Int) []]=[TIn.mk (List.replicate (32:Nat) (0:Int)) (0:Int) (0:Int) []]∧[TOut.mk (50:Int) (allOf [(2:Int)])]=[TOut.mk (50:Int) (allOf [(2:Int)])]∧True)∧x.t=x.t∧True)∧((True∧(mintL x.mi).total=(mintL x.mi).total∧True)∧(mintL x.mi).es=(mintL x.mi).es∧(True∧True∧True∧True∧True∧True∧True∧True∧True∧True∧True∧True∧True∧True∧True∧True∧True∧True)∧[]++[(idB wTx,[(1:Int)])]=[]++[(idB wTx,[(1:Int)])]∧True)∧x.sp.Ok∧(decide (x.t≥x.a)=true→((((checkF x.sp).snd==(0:Int))==decide ((0:Int)≥x.o))=true→(((checkF x.sp).snd==(0:Int))=true→True∧True∧True∧true=true∧True∧True)∧(((checkF x.sp).snd==(0:Int))=false→(((checkF x.sp).snd==(23:Int))=true→True∧True∧True∧true=true∧True∧True)∧(((checkF x.sp).snd==(23:Int))=false→true=false∧True∧True)))∧((((checkF x.sp).snd==(0:Int))==decide ((0:Int)≥x.o))=false→true=false∧True∧True))∧(decide (x.t≥x.a)=false→((((checkF x.sp).snd==(0:Int))==false)=true→(((checkF x.sp).snd==(0:Int))=true→True∧True∧True∧true=true∧True∧True)∧(((checkF x.sp).snd==(0:Int))=false→(((checkF x.sp).snd==(23:Int))=true→True∧True∧True∧true=true∧True∧True)∧(((checkF x.sp).snd==(23:Int))=false→true=false∧True∧True)))∧((((checkF x.sp).snd==(0:Int))==false)=false→true=false∧True∧True)))∧(decide (x.t-x.q<(0:Int))=false→(True∧((0:Int)=(0:Int)∧[TIn.mk (List.replicate (32:Nat) (0:Int)) (0:Int) (0:Int) []]=[TIn.mk (List.replicate (32:Nat) (0:Int)) (0:Int) (0:Int) []]∧[TOut.mk (50:Int) (allOf [(2:Int)])]=[TOut.mk (50:Int) (allOf [(2:Int)])]∧True)∧x.t=x.t∧True)∧((True∧(mintL x.mi).total=(mintL x.mi).total∧True)∧(mintL x.mi).es=(mintL x.mi).es∧(True∧True∧True∧True∧True∧True∧True∧True∧True∧True∧True∧True∧True∧True∧True∧True∧True∧True)∧[]++[(idB wTx,[(1:Int)])]=[]++[(idB wTx,[(1:Int)])]∧True)∧x.sp.Ok∧(decide (x.t≥x.a)=true→((((checkF x.sp).snd==(0:Int))==decide (x.t-x.q≥x.o))=true→(((checkF x.sp).snd==(0:Int))=true→True∧True∧True∧true=true∧True∧True)∧(((checkF x.sp).snd==(0:Int))=false→(((checkF x.sp).snd==(23:Int))=true→True∧True∧True∧true=true∧True∧True)∧(((checkF x.sp).snd==(23:Int))=false→true=false∧True∧True)))∧((((checkF x.sp).snd==(0:Int))==decide (x.t-x.q≥x.o))=false→true=false∧True∧True))∧(decide (x.t≥x.a)=false→((((checkF x.sp).snd==(0:Int))==false)=true→(((checkF x.sp).snd==(0:Int))=true→True∧True∧True∧true=true∧True∧True)∧(((checkF x.sp).snd==(0:Int))=false→(((checkF x.sp).snd==(23:Int))=true→True∧True∧True∧true=true∧True∧True)∧(((checkF x.sp).snd==(23:Int))=false→true=false∧True∧True)))∧((((checkF x.sp).snd==(0:Int))==false)=false→true=false∧True∧True))))) 
theorem lwaits_eq:lwaitsVC=fnS F255 f4 (bodyOf f4) lwaitsLS noAnn:=by kernel_rfl
/-- What is left when it was asked for. -/
theorem lw_end {c:Int} {b:Bool} (h:c=if b=true then 0 else 23):(((c==(0:Int))==b)=true→((c==(0:Int))=true→True∧True∧True∧true=true∧True∧True)∧((c==(0:Int))=false→((c==(23:Int))=true→True∧True∧True∧true=true∧True∧True)∧((c==(23:Int))=false→true=false∧True∧True)))∧(((c==(0:Int))==b)=false→true=false∧True∧True):=by
 cases b
 ·rw [h]; simp
 ·rw [h]; simp
theorem lwaits_vc:lwaitsVC:=by
 intro x _
 have ha:=wr_mod x.after (k:=30) (by omega)
 have ho:=wr_mod x.older (k:=30) (by omega)
 have hq:=wr_mod x.m (k:=20) (by omega)
 have ht:=wr_mod x.h (k:=60) (by omega)
 change 0≤x.a∧x.a<30 at ha
 change 0≤x.o∧x.o<30 at ho
 change 0≤x.q∧x.q<20 at hq
 change 0≤x.t∧x.t<60 at ht
 have hm:=(wa_mint x).1
 have hc:=wa_check x
 have z:∀ P:Prop,((!(0:Int)==(0:Int))=true)→P:=fun P h=>absurd h (by decide)
 refine ⟨trivial,trivial,trivial,trivial,trivial,trivial,by omega,by omega,by omega,by omega,⟨rfl,rfl,rfl,rfl,trivial⟩,⟨trivial,⟨rfl,rfl,trivial⟩,⟨rfl,rfl,trivial⟩,rfl⟩,⟨⟨trivial,rfl,trivial⟩,rfl,trivial⟩,mint_ok0 ?_,
  fun h=>?_,fun _=>⟨⟨rfl,rfl,rfl,rfl,trivial⟩,rfl,trivial,Nat.le_of_ble_eq_true rfl,⟨rfl,rfl,trivial⟩,⟨rfl,rfl,rfl,trivial⟩,trivial,wTx_ok,⟨trivial,rfl,rfl,trivial⟩,⟨bk16_ok rfl,rfl,trivial⟩,⟨rfl⟩,z _,fun _=>
   ⟨by unfold inI64; omega,fun h1=>⟨⟨trivial,⟨rfl,rfl,rfl,trivial⟩,rfl,trivial⟩,⟨⟨trivial,rfl,trivial⟩,rfl,bk16_ok trivial,rfl,trivial⟩,wa_ok x,fun h2=>lw_end ?_,fun h2=>lw_end ?_⟩,
    fun h1=>⟨⟨trivial,⟨rfl,rfl,rfl,trivial⟩,rfl,trivial⟩,⟨⟨trivial,rfl,trivial⟩,rfl,bk16_ok trivial,rfl,trivial⟩,wa_ok x,fun h2=>lw_end ?_,fun h2=>lw_end ?_⟩⟩⟩⟩
 ·show weight [⟨[1],List.replicate 32 0,x.a,x.o⟩]≤300
  simp [weight,sumK]
 ·rw [hm] at h
  exact absurd h (by decide)
 all_goals
  have h1':=h1
  have h2':=h2
  simp only [decide_eq_true_eq,decide_eq_false_iff_not] at h1' h2'
  rw [hc]
 ·by_cases h3:x.o≤0
  ·rw [if_neg (by omega),if_pos (decide_eq_true h3)]
  ·rw [if_pos (by omega),if_neg (by simpa using h3)]
 ·rw [if_pos (by omega),if_neg (by simp)]
 ·by_cases h3:x.t-x.q≥x.o
  ·rw [if_neg (by omega),if_pos (decide_eq_true h3)]
  ·rw [if_pos (by omega),if_neg (by simpa using h3)]
 ·rw [if_pos (by omega),if_neg (by simp)]
theorem lwaits_ok:Fits F255 f4 (bodyOf f4) lwaitsLS noAnn:=by
 constructor
 rw [← lwaits_eq]
 exact lwaits_vc
theorem lwaits_has:Has prog 4 f4 (bodyOf f4):=⟨by kernel_rfl,by kernel_rfl,by kernel_rfl⟩
end Go.Proofs.YthkffadomgcdaaaGreatDoor

/-! LedgerWaits' call. Conditions: none. -/
namespace Go.Proofs.YthkffadomgcdaaaGreatDoor
open Go Go.Eng Go.Proofs.Tryz Go.ChangeShapes Go.WideShapes Go.RowKit
theorem rd_two {H:Type} {enc:TypeId×Value→H} {P:Program} {w:World} {sp:Nat→Bool} {held:Bool} {C:Enc AA} {t e:TypeId} {F:SL AA→DataW H→Prop} (ht:P.underlying t=some (.array 2 e)) {n c:Nat} (hn:P.cellsOf t=n) (he:P.cellsOf e=c) (hc:n=c+c) (h:RdT enc P w sp held C e F) :
  RdT enc P w sp held C t fun sl _=>∃ s1 s2 d1 d2,sl=s1.app s2∧F s1 d1∧F s2 d2:=by
 intro fuel cs d ps hd
 cases fuel with
 | zero=>simp [DataW.trod] at hd
 | succ fuel=>
  simp only [DataW.trod,ht] at hd
  split at hd
  case isFalse=>cases hd
  rename_i hl
  rw [hn,hc] at hl
  rw [Option.map_eq_some_iff] at hd
  obtain ⟨ys,h1,_⟩:=hd
  obtain ⟨h2,h3⟩:=mapM_some h1
  obtain ⟨y0,_,g0⟩:=h3 0 0 (by simp)
  obtain ⟨y1,_,g1⟩:=h3 1 1 (by simp)
  obtain ⟨s1,r1,f1⟩:=h _ _ _ _ g0
  obtain ⟨s2,r2,f2⟩:=h _ _ _ _ g1
  refine ⟨s1.app s2,?_,s1,s2,_,_,rfl,f1,f2⟩
  have:=r1.app r2
  rw [he,Nat.zero_mul,List.drop_zero,Nat.one_mul,List.take_of_length_le (l:=cs.drop c) (by rw [List.length_drop]; omega),List.take_append_drop] at this
  exact this
theorem arr_of_ok {P:Program} {W:World} {r:Reach} {base:Nat} {t e:TypeId} {n:Nat} (ht:P.underlying t=some (.array n e)) {v:Value} (h:Value.okWide P W r base t v):∃ cs:List Value,v = .agg cs.toArray:=by
 unfold Value.okWide at h
 rw [ht] at h
 obtain ⟨cs,rfl,_⟩:=h
 exact ⟨cs.toList,by simp⟩
theorem cells_pairI:prog.cellsOf 62=2:=by kernel_rfl
theorem cells_int:prog.cellsOf 3=1:=by kernel_rfl
theorem rd_intL {H:Type} {enc:TypeId×Value→H} {w:World} {sp:Nat→Bool} {held:Bool}:RdT enc prog w sp held CC 3 fun sl _=>∃ n,sl = .cell (.int .i64 n) .nil∧(Lit.int .i64 n).wf=true:=rd_int underlying3
theorem rd_pairI {H:Type} {enc:TypeId×Value→H} {w:World} {sp:Nat→Bool} {held:Bool}:RdT enc prog w sp held CC 62 fun sl _=>∃ m n:Int,sl = .cell (.int .i64 m) (.cell (.int .i64 n) .nil):=by
 refine RdT.mono (rd_two underlying62 cells_pairI cells_int rfl rd_intL) ?_
 rintro sl d ⟨s1,s2,d1,d2,rfl,⟨m,rfl,_⟩,n,rfl,_⟩
 exact ⟨m,n,rfl⟩
theorem waits_calls {W:World} {vs:List Value} {x:WaX} (ha:ArgsR NoO [] W CC [.int .i64 x.after,.int .i64 x.older,.agg (.cell (.int .i64 x.m) (.cell (.int .i64 x.h) .nil))] vs) (hg:Glob GG NoO [] W CC) :
  Calls prog 4 vs.toArray W fun e W'=>e = .returned (.bool true)∧Below W.heap.size W W':=by
 have hS:Sound F255:=by rw [F255_eq]; exact sound mixed known255
 exact law_calls (ee_P F255_eq) hS lwaits_has lwaits_ok x trivial rfl rfl (fun _ _=>Nat.le_refl _) (by rw [ee_C F255_eq]; exact ha) (by rw [ee_GL F255_eq,ee_C F255_eq]; exact hg)
end Go.Proofs.YthkffadomgcdaaaGreatDoor
