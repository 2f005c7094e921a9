/- Part 3 of the texts behind the last one: what they say stands ahead of each. Conditions: none. -/
import Derived.Test.YthkffadomgcdaaaGreatDoorMf2
import Derived.Test.YthkffadomgcdaaaGreatDoorProg
import Derived.WalkKit
import Derived.LaidEql
import Derived.Stop.Asserts
import Derived.RowKitTokens
import Derived.Shelf.Sort.Plain
import Derived.Ground.Names2Prog
import Derived.Ground.NamesProg
import Derived.Shelf.Slices.Cells
import Derived.Shelf.Slices.In.SortNone
import GoSem.ClaimChange
import Derived.ProofKit
import Derived.Carry
import Derived.Test.YthkffadomgcdaaaGreatDoorRows
import Derived.Test.YthkffadomgcdaaaGreatDoorCards
import Derived.Test.YthkffadomgcdaaaGreatDoorTie
import Derived.Deep.DeepHandedRow
import Derived.LaidLaws
import Derived.LaidHandle
/-! The engine is right: a function, over the heap that it is handed. Conditions: none. -/
namespace Go.Eng
open Go
variable {A:Nat→Type}
theorem callR_of_calls {P : Program} {f : FuncId} {fn : Func} {c : Code} {vs : Array Value} {w : World} {R : Value → World → Prop} (hf : P.funcs[f]? = some fn) (hname : (fn.name == "runtime.NumGoroutine") = false) (hb : fn.body = some c)
  (h:Calls P f vs w fun | .returned v,w'=>R v w' | _,_=>False):CallR P f vs w R:=by
 intro o a next Q hn
 have hrun:(callFunc f vs).run P w = .ok (.enter f vs) w:=by
  have h1 : fn.name ≠ "runtime.NumGoroutine" := by simpa using hname
  simp [callFunc,hf,h1,hb]
 rw [hrun,Oper.upon_enter]
 refine h.mono (fun e w' he=>?_)
 cases e with
 | returned v=>exact hn v w' he
 | panicked c=>exact he.elim
 | outgrown=>exact he.elim
theorem nameAll_len (n:Nat):∀ l:List (SV A),(nameAll n l).length=l.length
 | []=>rfl
 | _::l=>by simp [nameAll,nameAll_len (n+1) l]
theorem padJ_len:∀ n:Nat,(padJ n:List (SV A)).length=n
 | 0=>rfl
 | n+1=>by simp [padJ,padJ_len n]
theorem padJ_get:∀ {n t:Nat} {s:SV A},(padJ n)[t]?=some s→s = .junk
 | 0,t,s,h=>by simp [padJ] at h
 | n+1,0,s,h=>by simp [padJ] at h; exact h.symm
 | n+1,t+1,s,h=>by simp [padJ] at h; exact padJ_get h
theorem nameAll_get:∀ {l:List (SV A)} {n t:Nat} {s:SV A},(nameAll n l)[t]?=some s→∃ v,l[t]?=some v∧s=named (n+t) v
 | [],n,t,s,h=>by simp [nameAll] at h
 | v::l,n,0,s,h=>by simp [nameAll] at h; exact ⟨v,rfl,h.symm⟩
 | v::l,n,t+1,s,h=>by
  simp [nameAll] at h
  obtain ⟨u,h1,h2⟩:=nameAll_get h
  exact ⟨u,by simpa using h1,by rw [h2]; congr 1; omega⟩
theorem named_sb {n i:Nat} {c:Bool} {v:SV A} (h:SV.sb i c=named n v):i=n:=by
 unfold named at h
 split at h
 ·cases h; rfl
 ·rename_i hn; exact absurd h.symm (hn i c)
theorem start_get {l:List (SV A)} {m t i:Nat} {c:Bool} (h:(nameAll 0 l++padJ m)[t]?=some (.sb i c)):i=t∧t<l.length:=by
 rcases Nat.lt_or_ge t l.length with ht | ht
 ·rw [List.getElem?_append_left (by rw [nameAll_len]; exact ht)] at h
  obtain ⟨v,_,h2⟩:=nameAll_get h
  have:=named_sb h2
  exact ⟨by omega,ht⟩
 ·rw [List.getElem?_append_right (by rw [nameAll_len]; exact ht)] at h
  have:=padJ_get h
  cases this
theorem WF.start (l:List (SV A)) (m:Nat):WF (nameAll 0 l++padJ m) (cnt l) where
 lt:=fun t i c h=>by
  have:=start_get h
  rw [cnt_eq]; omega
 one:=fun t t' i c c' h h'=>by
  have h1:=start_get h
  have h2:=start_get h'
  have e:t=t':=by omega
  subst e
  rw [h] at h'
  cases h'; rfl
section
variable {E:Eng A} {O:Nat→Prop} {ts:List (SV A)} {sh:List (SO A)} {env:List Wit} {a:Act} {w:World}
theorem argsR_get {O:Nat→Prop} {env:List Wit} {w:World} {C:Enc A}:∀ {l:List (SV A)} {vs:List Value},ArgsR O env w C l vs→l.length=vs.length∧∀ (t:Nat) s,l[t]?=some s→∃ v,vs[t]?=some v∧Rep O env w C s v
 | [],vs,h=>by
  have:vs=[]:=h
  subst this
  exact ⟨rfl,fun t s h=>by simp at h⟩
 | s::l,vs,h=>by
  obtain ⟨u,us,rfl,h1,h2⟩:=h
  obtain ⟨h3,h4⟩:=argsR_get h2
  refine ⟨by simp [h3],fun t s' ht=>?_⟩
  cases t with
  | zero=>simp at ht; subst ht; exact ⟨u,rfl,h1⟩
  | succ t=>simpa using h4 t s' (by simpa using ht)
theorem rel_start {l:List (SV A)} {vs:List Value} {n:Nat} (ha:ArgsR O env w E.C l vs) (hh:HR O env w E.C sh) (hg:Glob E.GL O env w E.C) :
  Rel E O (nameAll 0 l++padJ (n-cnt l)) sh env { tmps:=vs.toArray++Array.replicate (n-vs.toArray.size) undef,defers:=[] } w:=by
 obtain ⟨h1,h2⟩:=argsR_get ha
 refine ⟨rfl,?_,fun t s ht=>?_,hh,hg⟩
 ·simp [nameAll_len,padJ_len,cnt_eq,h1]
 ·rcases Nat.lt_or_ge t l.length with hl | hl
  ·rw [List.getElem?_append_left (by rw [nameAll_len]; exact hl)] at ht
   obtain ⟨v,h3,rfl⟩:=nameAll_get ht
   obtain ⟨u,h4,h5⟩:=h2 t v h3
   refine ⟨u,?_,rep_named _ h5⟩
   simp only
   rw [Array.getElem?_append_left (by simp; omega)]
   simpa using h4
  ·rw [List.getElem?_append_right (by rw [nameAll_len]; exact hl)] at ht
   have hlt:=(List.getElem?_eq_some_iff.1 ht).1
   have:=padJ_get ht
   subst this
   rw [nameAll_len,padJ_len,cnt_eq] at hlt
   simp only
   rw [Array.getElem?_append_right (by simp; omega)]
   refine ⟨undef,?_,.junk⟩
   rw [Array.getElem?_replicate,if_pos (by simp; omega)]
def resM (tmps:Array Value):ResultVar→Sem Value
 | .tmp t=>pure (tmps.getD t undef)
 | .cell a t=>do loadVar t (← asAddr (tmps.getD a undef))
theorem results_eq (fn:Func) (tmps:Array Value):results fn tmps=(do
  let vs ← fn.results.mapM (resM tmps)
  pure (if h:vs.size=1 then vs[0] else .tuple vs)):=by
 unfold results
 congr 1
/-- What is handed back, in memory. -/
theorem resS_rep (h:Rel E O ts sh env a w):∀ {l:List ResultVar} {K:List (SV A)→Prop},resS E ts sh l K→∃ (ss:List (SV A)) (vs:List Value),K ss∧ArgsR O env w E.C ss vs ∧
  (l.mapM (resM a.tmps)).run E.P w = .ok vs w
 | [],K,hr=>⟨[],[],hr,rfl,by simp⟩
 | .tmp t::l,K,hr=>by
  simp only [resS] at hr
  split at hr
  ·rename_i s hs
   rw [nth_eq] at hs
   obtain ⟨v,hv,h1⟩:=h.tmps t s hs
   obtain ⟨ss,vs,hK,h2,h4⟩:=resS_rep h hr
   refine ⟨s::ss,v::vs,hK,⟨v,vs,rfl,h1,h2⟩,?_⟩
   have hd:a.tmps.getD t undef=v:=by simp [Array.getD_eq_getD_getElem?,hv]
   simp [List.mapM_cons,resM,hd,h4]
  ·exact hr.elim
 | .cell x t::l,K,hr=>by
  simp only [resS] at hr
  obtain ⟨ad,v,s,hx,h1,h2,h3⟩:=run_loadS h hr
  obtain ⟨ss,vs,hK,h5,h4⟩:=resS_rep h h3
  refine ⟨s::ss,v::vs,hK,⟨v,vs,rfl,h2,h5⟩,?_⟩
  have hd:a.tmps.getD x undef = .pointer (some ad):=hx
  simp [List.mapM_cons,resM,hd,h4,asAddr,h1 w (Old.refl _)]
theorem run_results {fn:Func} (h:Rel E O ts sh env a w) {K:List (SV A)→Prop} (hr:resS E ts sh fn.results.toList K) :
  ∃ ss v,K ss∧(results fn a.tmps).run E.P w = .ok v w∧∃ vs:List Value,ArgsR O env w E.C ss vs∧v=(if h:vs.toArray.size=1 then vs.toArray[0] else .tuple vs.toArray):=by
 obtain ⟨ss,vs,hK,h1,h3⟩:=resS_rep h hr
 refine ⟨ss,_,hK,?_,vs,h1,rfl⟩
 rw [results_eq,Array.mapM_eq_mapM_toList]
 simp [h3]
theorem argsR_mkL {O:Nat→Prop} {env:List Wit} {w:World} {C:Enc A}:∀ {l:List (SV A)} {vs:List Value},ArgsR O env w C l vs→RepL O env w C (mkL l) vs
 | [],_,h=>by
  have:=h
  simp only [ArgsR] at this
  subst this; exact .nil
 | _::_,_,⟨u,us,e,h1,h2⟩=>by subst e; exact .cell h1 (argsR_mkL h2)
theorem resV_rep {O:Nat→Prop} {env:List Wit} {w:World} {C:Enc A} {ss:List (SV A)} {vs:List Value} (h:ArgsR O env w C ss vs):Rep O env w C (resV ss) (if h:vs.toArray.size=1 then vs.toArray[0] else .tuple vs.toArray):=by
 have hl:=(argsR_get h).1
 match ss,vs,hl,h with
 | [],[],_,h=>simpa [resV,mkL] using Rep.tup [] .nil
 | [s],[v],_,h=>
  obtain ⟨u,us,e,h1,_⟩:=h
  simp at e
  simpa [resV,e.1] using h1
 | a::b::l,x::y::m,_,h=>
  have:=Rep.tup _ (argsR_mkL h)
  simpa [resV] using this
theorem argsR_step {O:Nat→Prop} {env env':List Wit} {w w':World} {C:Enc A} (hs:Step env w env' w'):∀ {l:List (SV A)} {vs:List Value},ArgsR O env w C l vs→ArgsR O env' w' C l vs
 | [],_,h=>h
 | _::_,_,⟨u,us,e,h1,h2⟩=>⟨u,us,e,h1.step hs,argsR_step hs h2⟩
theorem endL_spec:∀ {ws cs cs':SL A} {sh sh':List (SO A)} {env:List Wit} {vs:List Value},HR O env w E.C sh→endL sh ws cs=some (cs',sh')→RepL O env w E.C cs vs →
  ∃ env',HR O env' w E.C sh'∧Step env w env' w∧RepL O env' w E.C cs' vs
 | .cell a r,.cell h s,_,sh,_,env,vs,hh,hk,hr=>by
  simp only [endL] at hk
  split at hk
  ·rename_i h' sh1 h1
   split at hk
   ·rename_i s' sh2 h2
    cases hk
    obtain ⟨u,us,rfl,h3,h4⟩:=hr.inv_cell
    have h5:∃ env1,HR O env1 w E.C sh1∧Step env w env1 w∧Rep O env1 w E.C h' u:=by
     split at h1
     ·cases h1; exact ⟨env,hh,Step.refl _ _,h3⟩
     ·exact letGo_spec hh h1 h3
    obtain ⟨env1,h6,h7,h8⟩:=h5
    obtain ⟨env2,h9,h10,h11⟩:=endL_spec h6 h2 (h4.step h7)
    exact ⟨env2,h9,h7.trans h10,.cell (h8.step h10) h11⟩
   ·cases hk
  ·cases hk
 | .run _ _ _ r,.run k n xs s,_,sh,_,env,vs,hh,hk,hr=>by
  simp only [endL] at hk
  split at hk
  ·rename_i s' sh2 h2
   cases hk
   obtain ⟨us,hn,rfl,h3⟩:=hr.inv_run
   obtain ⟨env2,h9,h10,h11⟩:=endL_spec hh h2 h3
   exact ⟨env2,h9,h10,.run hn h11⟩
  ·cases hk
 | .nil,.nil,_,_,_,_,_,hh,hk,hr=>letGoL_spec hh (by simpa only [endL] using hk) hr
 | .nil,.cell _ _,_,_,_,_,_,hh,hk,hr=>letGoL_spec hh (by simpa only [endL] using hk) hr
 | .nil,.run _ _ _ _,_,_,_,_,_,hh,hk,hr=>letGoL_spec hh (by simpa only [endL] using hk) hr
 | .cell _ _,.nil,_,_,_,_,_,hh,hk,hr=>letGoL_spec hh (by simpa only [endL] using hk) hr
 | .cell _ _,.run _ _ _ _,_,_,_,_,_,hh,hk,hr=>letGoL_spec hh (by simpa only [endL] using hk) hr
 | .run _ _ _ _,.nil,_,_,_,_,_,hh,hk,hr=>letGoL_spec hh (by simpa only [endL] using hk) hr
 | .run _ _ _ _,.cell _ _,_,_,_,_,_,hh,hk,hr=>letGoL_spec hh (by simpa only [endL] using hk) hr
theorem end1_spec {want have_ v':SV A} {sh':List (SO A)} {v:Value} (hh:HR O env w E.C sh) (hk:end1 sh want have_=some (v',sh')) (hr:Rep O env w E.C have_ v) :
  ∃ env',HR O env' w E.C sh'∧Step env w env' w∧Rep O env' w E.C v' v:=by
 unfold end1 at hk
 split at hk
 ·cases hk; exact ⟨env,hh,Step.refl _ _,hr⟩
 ·cases hk; exact ⟨env,hh,Step.refl _ _,hr⟩
 ·split at hk
  ·split at hk
   ·split at hk
    ·rename_i h1
     cases hk
     obtain ⟨us,rfl,h2⟩:=hr.inv_agg
     obtain ⟨env',h3,h4,h5⟩:=endL_spec hh h1 h2
     exact ⟨env',h3,h4,.agg us h5⟩
    ·cases hk
   ·cases hk
  ·exact letGoV_spec hh hk hr
 ·exact letGoV_spec hh hk hr
theorem endS_spec:∀ {ws l l':List (SV A)} {vs:List Value} {sh sh':List (SO A)} {env:List Wit},HR O env w E.C sh→endS sh ws l=some (l',sh')→ArgsR O env w E.C l vs →
  ∃ env',HR O env' w E.C sh'∧Step env w env' w∧ArgsR O env' w E.C l' vs
 | [],[],_,vs,sh,_,env,hh,hk,hr=>by
  simp only [endS,Option.some.injEq,Prod.mk.injEq] at hk
  obtain ⟨rfl,rfl⟩:=hk
  exact ⟨env,hh,Step.refl _ _,hr⟩
 | s::r,h::l,_,vs,sh,_,env,hh,hk,hr=>by
  simp only [endS] at hk
  split at hk
  ·rename_i v1 sh1 h1
   split at hk
   ·rename_i l1 sh2 h2
    cases hk
    obtain ⟨u,us,rfl,h3,h4⟩:=hr
    obtain ⟨env1,h5,h6,h7⟩:=end1_spec hh h1 h3
    obtain ⟨env2,h8,h9,h10⟩:=endS_spec h5 h2 (argsR_step h6 h4)
    exact ⟨env2,h8,h6.trans h9,u,us,rfl,h7.step h9,h10⟩
   ·cases hk
  ·cases hk
 | [],_::_,_,_,_,_,_,_,hk,_=>by simp [endS] at hk
 | _::_,[],_,_,_,_,_,_,hk,_=>by simp [endS] at hk
theorem takeN_drop {α:Type _}:∀ (n:Nat) (l:List α),takeN n l++dropN n l=l
 | 0,l=>rfl
 | n+1,[]=>rfl
 | n+1,x::l=>by simp [takeN,dropN,takeN_drop n l]
theorem takeN_len {α:Type _}:∀ {n:Nat} {l:List α},n≤l.length→(takeN n l).length=n
 | 0,l,_=>rfl
 | n+1,[],h=>by simp at h
 | n+1,x::l,h=>by simp [takeN,takeN_len (n:=n) (l:=l) (by simpa using h)]
theorem slotsFrom_get {l:List (SV A)}:∀ {n:Nat} {k:Nat} {s:SV A},l[k]?=some s→(n+k,s)∈slotsFrom n l:=by
 induction l with
 | nil=>intro n k s h; simp at h
 | cons x l ih=>
  intro n k s h
  cases k with
  | zero=>simp at h; subst h; exact List.mem_cons_self
  | succ k=>
   have:=ih (n:=n+1) (k:=k) (s:=s) (by simpa using h)
   rw [show n+(k+1)=n+1+k from by omega]
   exact List.mem_cons_of_mem _ this
theorem nth_lt {σ:List (SV A)} {k:Nat} {s:SV A} (h:nth σ k=some s):k<σ.length:=by
 rw [nth_eq] at h; exact (List.getElem?_eq_some_iff.1 h).1
theorem ite_of {p:Prop} [Decidable p] (h:p):(if p then true else false)=true:=if_pos h
theorem ite_both {p q:Bool} (h:p=true) (k:q=true):(if p=true then q else false)=true:=by rw [if_pos h]; exact k
mutual
theorem okV_below {n:Nat} {σ:List (SV A)}:∀ (s:SV A),okV n σ s=true→belowV (n+σ.length) s=true
 | .junk,_=>rfl
 | .undef,_=>rfl
 | .val _,_=>rfl
 | .int _ _,_=>rfl
 | .lit _ _,_=>rfl
 | .bl _,_=>rfl
 | .sb _ _,_=>rfl
 | .err _ _,_=>rfl
 | .rints _ _,_=>rfl
 | .rseq _ _,_=>rfl
 | .rful _ _,_=>rfl
 | .ptr i o,h=>by
  simp only [okV] at h; simp only [belowV]
  split at h
  ·exact ite_of (by omega)
  ·unfold ptrSrc at h
   split at h
   ·rename_i hj; have:=nth_lt hj; exact ite_of (by omega)
   ·cases h
 | .vec i,h=>by
  simp only [okV] at h; simp only [belowV]
  split at h
  ·exact ite_of (by omega)
  ·unfold vecSrc at h
   split at h
   ·rename_i hj; have:=nth_lt hj; exact ite_of (by omega)
   ·rename_i hj; have:=nth_lt hj; exact ite_of (by omega)
   ·cases h
 | .aptr i o m j,h=>by simp only [okV] at h; simp only [belowV]; have:=ite_tt h; exact ite_of (by omega)
 | .asl i o m,h=>by simp only [okV] at h; simp only [belowV]; have:=ite_tt h; exact ite_of (by omega)
 | .vptr i j s o,h=>by simp only [okV] at h; simp only [belowV]; have:=ite_tt h; exact ite_of (by omega)
 | .rptr cs o,h=>by simp only [okV] at h; simp only [belowV]; exact okL_below cs h
 | .iface t v,h=>by simp only [okV] at h; simp only [belowV]; exact okV_below v h
 | .fn f x y,h=>by simp only [okV] at h; simp only [belowV]; exact ite_both (okL_below x (ite_and h).1) (okL_below y (ite_and h).2)
 | .agg cs,h=>by simp only [okV] at h; simp only [belowV]; exact okL_below cs h
 | .tup cs,h=>by simp only [okV] at h; simp only [belowV]; exact okL_below cs h
theorem okL_below {n:Nat} {σ:List (SV A)}:∀ (cs:SL A),okL n σ cs=true→belowL (n+σ.length) cs=true
 | .nil,_=>rfl
 | .cell v r,h=>by simp only [okL] at h; simp only [belowL]; exact ite_both (okV_below v (ite_and h).1) (okL_below r (ite_and h).2)
 | .run _ _ _ r,h=>by simp only [okL] at h; simp only [belowL]; exact okL_below r h
end
theorem okOs_below {n:Nat} {σ:List (SV A)}:∀ (l:List (SO A)),okOs n σ l=true→belowOs (n+σ.length) l=true
 | [],_=>rfl
 | o::l,h=>by
  simp only [okOs] at h; simp only [belowOs]
  refine ite_both ?_ (okOs_below l (ite_and h).2)
  have h1:=(ite_and h).1
  cases o<;>first | rfl | skip
  ·exact okL_below _ h1
  ·exact okV_below _ h1
  ·exact okV_below _ h1
theorem belowVs_of {n:Nat}:∀ {l:List (SV A)},(∀ (k:Nat) s,l[k]?=some s→belowV n s=true)→belowL n (mkL l)=true
 | [],_=>rfl
 | s::l,h=>by
  simp only [mkL,belowL]
  exact ite_both (h 0 s rfl) (belowVs_of fun k s hk=>h (k+1) s (by simpa using hk))
theorem belowV_resV {n:Nat} {l:List (SV A)} (h:∀ (k:Nat) s,l[k]?=some s→belowV n s=true):belowV n (resV l)=true:=by
 match l,h with
 | [s],h=>exact h 0 s rfl
 | [],h=>rfl
 | a::b::l,h=>exact belowVs_of h
theorem belowOs_app {n:Nat}:∀ {l m:List (SO A)},belowOs n l=true→belowOs n m=true→belowOs n (l++m)=true
 | [],_,_,h=>h
 | o::l,m,h,k=>by
  simp only [belowOs] at h
  simp only [List.cons_append,belowOs]
  exact ite_both (ite_and h).1 (belowOs_app (ite_and h).2 k)
/-- A function does what its contract says, over the heap that it is handed. -/
theorem fn_calls (hS:Sound E) {f:FuncId} {fn:Func} {body:Code} (hf:E.P.funcs[f]?=some fn) (hb:fn.body=some body) {L:LS A} {ann:L.X→Anns A}
  (hL:fnS E fn body L ann) (hle:∀ x,L.pre x→(L.hin x).length≤(L.hout x).length) {x:L.X} (hx:L.pre x) {vs:List Value} (ha:ArgsR O env w E.C (L.args x) vs) (hh:HR O env w E.C (L.hin x)) (hg:Glob E.GL O env w E.C) :
  Calls E.P f vs.toArray w fun | .returned v,w'=>(∃ env',Rep O env' w' E.C (resV (L.res x)) v∧HR O env' w' E.C (L.hout x)∧Step env w env' w'∧belowV (L.hout x).length (resV (L.res x))=true∧belowOs (L.hout x).length (L.hout x)=true) | _,_=>False:=by
 refine calls_of_wp hf hb (wp_mono (codeS_sound hS (WF.start _ _) (rel_start ha hh hg) (hL x hx)) (fun e a' w' he=>?_))
 obtain ⟨ex,ts',sh',env',n',h1,h2,h3,h4,h5,h6⟩:=he
 have key:(resS E ts' sh' fn.results.toList fun l=>match endS sh' (L.res x) l with
   | some (l',sh')=>arrS (takeN (cnt (L.hin x)) (L.hout x)) (dropN (cnt (L.hin x)) (L.hout x)) (slotsFrom 0 (L.res x)) l' sh'
   | none=>False)→a'.defers=[]∧∃ v,(results fn a'.tmps).run E.P w' = .ok v w'∧∃ env',Rep O env' w' E.C (resV (L.res x)) v∧HR O env' w' E.C (L.hout x)∧Step env w env' w'∧belowV (L.hout x).length (resV (L.res x))=true∧belowOs (L.hout x).length (L.hout x)=true:=by
  intro hk
  obtain ⟨ss,v,hK,hrun,vs,h7,rfl⟩:=run_results h2 hk
  split at hK
  case h_2=>exact hK.elim
  rename_i l' sh2 hend
  obtain ⟨env2,h8,h9,h10⟩:=endS_spec h2.heap hend h7
  obtain ⟨σ,hok,hsl,h12,h13⟩:=arr_heap (hS.below 0) h8 hK
  rw [takeN_drop] at h12
  have hP:(takeN (cnt (L.hin x)) (L.hout x)).length=(L.hin x).length:=by rw [cnt_eq]; exact takeN_len (hle x hx)
  have hn:(takeN (cnt (L.hin x)) (L.hout x)).length+σ.length=(L.hout x).length:=by
   have h14:=h12.len
   simp only [arrEnv,List.length_append,List.length_map] at h14
   rw [cutEnv_len] at h14
   ·exact h14.symm
   ·have:=h8.len
    unfold arrS at hK
    split at hK
    case h_2=>exact hK.elim
    split at hK
    case isFalse=>exact hK.elim
    split at hK
    case isFalse=>exact hK.elim
    split at hK
    case isFalse=>exact hK.elim
    split at hK
    case isFalse=>exact hK.elim
    have:=(preIs_get hK.2.1).1
    omega
  have hres:∀ (k:Nat) s,(L.res x)[k]?=some s→∃ u,vs[k]?=some u∧Rep O (arrEnv (takeN (cnt (L.hin x)) (L.hout x)) σ env2) w' E.C s u∧belowV (L.hout x).length s=true:=by
   intro k s hk
   have hm:=slotsFrom_get (n:=0) hk
   rw [Nat.zero_add] at hm
   have h14:=slotsAre_get hsl _ hm
   unfold slotIs at h14
   split at h14
   ·rename_i s' hs'
    rw [nth_eq] at hs'
    obtain ⟨u,hu,hr⟩:=(argsR_get h10).2 k s' hs'
    exact ⟨u,hu,(eqv_rep h14 (rslV_rep h8 hr)).arr (hS.below 0) h13 _ (hok _ hm),by rw [← hn]; exact okV_below _ (hok _ hm)⟩
   ·exact h14.elim
  have hlen:(L.res x).length=vs.length:=by
   have e1:∀ (ws l l':List (SV A)) (s s':List (SO A)),endS s ws l=some (l',s')→ws.length=l.length:=by
    intro ws
    induction ws with
    | nil=>intro l l' s s' h; cases l<;>simp [endS] at h; rfl
    | cons x ws ih=>
     intro l l' s s' h
     cases l with
     | nil=>simp [endS] at h
     | cons y l=>
      simp only [endS] at h
      split at h
      ·split at h
       ·rename_i h2; simp [ih _ _ _ _ h2]
       ·cases h
      ·cases h
   rw [e1 _ _ _ _ _ hend]; exact (argsR_get h7).1
  have hargs:ArgsR O (arrEnv (takeN (cnt (L.hin x)) (L.hout x)) σ env2) w' E.C (L.res x) vs:=by
   generalize L.res x=rs at hres hlen
   clear hrun h7 h10
   induction rs generalizing vs with
   | nil=>exact List.eq_nil_of_length_eq_zero hlen.symm
   | cons r rs ih=>
    cases vs with
    | nil=>simp at hlen
    | cons u us=>
     obtain ⟨u',hu,h15,_⟩:=hres 0 r rfl
     simp at hu; subst hu
     exact ⟨u,us,rfl,h15,ih us (fun k s hk=>by simpa using hres (k+1) s (by simpa using hk)) (by simpa using hlen)⟩
  have hob:belowOs (L.hout x).length (L.hout x)=true:=by
   unfold arrS at hK
   split at hK
   case h_2=>exact hK.elim
   rename_i σ' hσ'
   split at hK
   case isFalse=>exact hK.elim
   split at hK
   case isFalse=>exact hK.elim
   rename_i hb1 hb2
   split at hK
   case isFalse=>exact hK.elim
   split at hK
   case isFalse=>exact hK.elim
   have hml:=(moreIs_get hK.2.2).1
   have e2:(takeN (cnt (L.hin x)) (L.hout x)).length+σ'.length=(L.hout x).length:=by
    rw [← hml,← List.length_append,takeN_drop]
   have h16:=belowOs_app (okOs_below _ hb1) (okOs_below _ hb2)
   rw [takeN_drop,cnt_eq (takeN _ _),e2] at h16
   exact h16
  refine ⟨h2.defers,_,hrun,_,resV_rep hargs,h12,(h3.trans h9).arr (n:=(takeN (cnt (L.hin x)) (L.hout x)).length) ?_ ?_ h13,belowV_resV (fun k s hk=>(hres k s hk).elim fun _ h=>h.2.2),hob⟩
  ·rw [hP,hh.len]; exact Nat.le_refl _
  ·rw [← h12.len]; omega
 cases ex with
 | exit i=>exact h6.elim
 | normal=>
  cases e<;>simp [exOf] at h1
  obtain ⟨h7,v,h8,h9⟩:=key h6
  exact ⟨h7,v,h8,h9⟩
 | ret=>
  cases e<;>simp [exOf] at h1
  obtain ⟨h7,v,h8,h9⟩:=key h6
  exact ⟨h7,v,h8,h9⟩
/-- A function does what its contract says, over the heap that it is handed. -/
theorem fn_local (hS : Sound E) {f : FuncId} {fn : Func} {body : Code} (hf : E.P.funcs[f]? = some fn) (hname : (fn.name == "runtime.NumGoroutine") = false) (hb : fn.body = some body) {L : LS A} {ann : L.X → Anns A}
  (hL:fnS E fn body L ann) (hle:∀ x,L.pre x→(L.hin x).length≤(L.hout x).length) {x:L.X} (hx:L.pre x) {vs:List Value} (ha:ArgsR O env w E.C (L.args x) vs) (hh:HR O env w E.C (L.hin x)) (hg:Glob E.GL O env w E.C) :
  CallR E.P f vs.toArray w fun v w'=>∃ env',Rep O env' w' E.C (resV (L.res x)) v∧HR O env' w' E.C (L.hout x)∧Step env w env' w'∧belowV (L.hout x).length (resV (L.res x))=true∧belowOs (L.hout x).length (L.hout x)=true:=by
 exact callR_of_calls hf hname hb (fn_calls hS hf hb hL hle hx ha hh hg)
end
end Go.Eng

/-! The engine is right: a function that is handed no memory to write in, called from anywhere. Conditions: none. -/
namespace Go.Eng
open Go
variable {A:Nat→Type}
mutual
/-- Other numbers for the heap's entries. -/
def ren (f:Nat→Nat):SV A→SV A
 | .ptr i o => .ptr (f i) o
 | .aptr i o n j => .aptr (f i) o n j
 | .asl i o n => .asl (f i) o n
 | .vec i => .vec (f i)
 | .vptr i j s o => .vptr (f i) j s o
 | .rptr cs o => .rptr (renL f cs) o
 | .iface t v => .iface t (ren f v)
 | .fn g a b => .fn g (renL f a) (renL f b)
 | .agg cs => .agg (renL f cs)
 | .tup cs => .tup (renL f cs)
 | s=>s
def renL (f:Nat→Nat):SL A→SL A
 | .nil => .nil
 | .cell v r => .cell (ren f v) (renL f r)
 | .run k n xs r => .run k n xs (renL f r)
end
def renO (f:Nat→Nat):SO A→SO A
 | .cells e cs => .cells e (renL f cs)
 | .fr s => .fr (ren f s)
 | .miter v s a c => .miter (ren f v) s a c
 | o=>o
def renOs (f:Nat→Nat):List (SO A)→List (SO A)
 | []=>[]
 | o::l=>renO f o::renOs f l
theorem renOs_eq (f:Nat→Nat):∀ l:List (SO A),renOs f l=l.map (renO f)
 | []=>rfl
 | o::l=>by simp [renOs,renOs_eq f l]
mutual
def plainV:SV A→Bool
 | .int _ _=>true
 | .lit _ _=>true
 | .bl _=>true
 | .sb _ _=>true
 | .val _=>true
 | .err _ _=>true
 | .undef=>true
 | .agg cs=>plainL cs
 | .tup cs=>plainL cs
 | _=>false
def plainL:SL A→Bool
 | .nil=>true
 | .cell v r=>if plainV v then plainL r else false
 | .run _ _ _ r=>plainL r
end
def letGos (sh:List (SO A)):List (SV A)→Option (List (SV A)×List (SO A))
 | []=>some ([],sh)
 | v::l=>match letGoV sh v with
  | some (v',sh1)=>match letGos sh1 l with
   | some (l',sh2)=>some (v'::l',sh2)
   | none=>none
  | none=>none
def eqva:List (SV A)→List (SV A)→Prop
 | [],[]=>True
 | a::r,b::s=>eqv a b∧eqva r s
 | _,_=>False
def belowVs (n:Nat):List (SV A)→Bool
 | []=>true
 | v::l=>if belowV n v then belowVs n l else false
/-- What a caller knows of a call. -/
def tOf (L:LS A) (get:List (SV A)→Option L.X):SpecT A:=fun args sh K=>match letGos sh args with
 | some (args',sh1)=>match get args' with
  | some x=>L.pre x∧(match L.hout x with
   | []=>if plainV (resV (L.res x)) then K (resV (L.res x)) sh else K (resV (L.res x)) sh1
   | l=>K (ren (fun i=>cnt sh1+i) (resV (L.res x))) (joinL sh1 (renOs (fun i=>cnt sh1+i) l)))
  | none=>False
 | none=>False
section
variable {O O2:Nat→Prop} {env env2:List Wit} {w w2:World} {C:Enc A}
mutual
theorem Rep.plain:∀ {s:SV A} {v:Value},plainV s=true→Rep O env w C s v→Rep O2 env2 w2 C s v
 | _,_,_,.undef => .undef
 | _,_,_,.val => .val
 | _,_,_,.int => .int
 | _,_,_,.lit => .lit
 | _,_,_,.bl => .bl
 | _,_,_,.sb => .sb
 | _,_,_,.err h => .err h
 | _,_,hp,.agg vs h => .agg vs (RepL.plain (by simp only [plainV] at hp; exact hp) h)
 | _,_,hp,.tup vs h => .tup vs (RepL.plain (by simp only [plainV] at hp; exact hp) h)
 | _,_,hp,.junk=>by simp [plainV] at hp
 | _,_,hp,.ptr _=>by simp [plainV] at hp
 | _,_,hp,.aptr _=>by simp [plainV] at hp
 | _,_,hp,.asl _=>by simp [plainV] at hp
 | _,_,hp,.rptr _ _ _ _ _ _ _ _=>by simp [plainV] at hp
 | _,_,hp,.rints _ _ _ _ _=>by simp [plainV] at hp
 | _,_,hp,.rseq _ _ _ _ _ _ _ _=>by simp [plainV] at hp
 | _,_,hp,.rful _ _ _ _ _ _=>by simp [plainV] at hp
 | _,_,hp,.vec _=>by simp [plainV] at hp
 | _,_,hp,.vptr _=>by simp [plainV] at hp
 | _,_,hp,.iface _=>by simp [plainV] at hp
 | _,_,hp,.fn _ _ _ _=>by simp [plainV] at hp
theorem RepL.plain:∀ {cs:SL A} {vs:List Value},plainL cs=true→RepL O env w C cs vs→RepL O2 env2 w2 C cs vs
 | _,_,_,.nil => .nil
 | _,_,hp,.cell h hr => .cell (Rep.plain (by simp only [plainL] at hp; exact (ite_and hp).1) h) (RepL.plain (by simp only [plainL] at hp; exact (ite_and hp).2) hr)
 | _,_,hp,.run hn hr => .run hn (RepL.plain (by simp only [plainL] at hp; exact hp) hr)
end
theorem blkAt.ren {f:Nat→Nat} {n:Nat} (hE:∀ i,i<n→env2[f i]?=env[i]?) {i:Nat} (hi:i<n) {P:Nat→Prop} (h:blkAt env i P):blkAt env2 (f i) P:=by
 unfold blkAt at *; rw [hE i hi]; exact h
theorem refAt.ren {f:Nat→Nat} {n:Nat} (hE:∀ i,i<n→env2[f i]?=env[i]?) {i:Nat} (hi:i<n) {off:Nat} {v:Value} (h:refAt env i off v):refAt env2 (f i) off v:=by
 unfold refAt at *; rw [hE i hi]; exact h
theorem slAt.ren {f:Nat→Nat} {n:Nat} (hE:∀ i,i<n→env2[f i]?=env[i]?) {i:Nat} (hi:i<n) {P:Value→Prop} (h:slAt env i P):slAt env2 (f i) P:=by
 unfold slAt at *; rw [hE i hi]; exact h
mutual
/-- From one heap into another. -/
theorem Rep.ren {f:Nat→Nat} {n:Nat} (hC:∀ t y,belowL 0 (C.enc t y)=true) (hO:∀ b,¬O b→¬owned env b→¬O2 b∧¬owned env2 b) (hE:∀ i,i<n→env2[f i]?=env[i]?):∀ {s:SV A} {v:Value},belowV n s=true→Rep O env w C s v→Rep O2 env2 w C (ren f s) v
 | _,_,_,.junk=>by simp only [Eng.ren]; exact .junk
 | _,_,_,.undef=>by simp only [Eng.ren]; exact .undef
 | _,_,_,.val=>by simp only [Eng.ren]; exact .val
 | _,_,_,.int=>by simp only [Eng.ren]; exact .int
 | _,_,_,.lit=>by simp only [Eng.ren]; exact .lit
 | _,_,_,.bl=>by simp only [Eng.ren]; exact .bl
 | _,_,_,.sb=>by simp only [Eng.ren]; exact .sb
 | _,_,_,.err h=>by simp only [Eng.ren]; exact .err h
 | _,_,hb,.ptr h=>by simp only [Eng.ren]; exact .ptr (h.ren hE (ite_tt (by simp only [belowV] at hb; exact hb)))
 | _,_,hb,.aptr h=>by simp only [Eng.ren]; exact .aptr (h.ren hE (ite_tt (by simp only [belowV] at hb; exact hb)))
 | _,_,hb,.asl h=>by simp only [Eng.ren]; exact .asl (h.ren hE (ite_tt (by simp only [belowV] at hb; exact hb)))
 | _,_,hb,.vec h=>by simp only [Eng.ren]; exact .vec (h.ren hE (ite_tt (by simp only [belowV] at hb; exact hb)))
 | _,_,hb,.vptr h=>by simp only [Eng.ren]; exact .vptr (h.ren hE (ite_tt (by simp only [belowV] at hb; exact hb)))
 | _,_,hb,.rptr b o vs h1 h2 hl hcl h=>by simp only [Eng.ren]; exact .rptr b o vs (hO b h1 h2).1 (hO b h1 h2).2 hl hcl (RepL.ren hC hO hE (by simp only [belowV] at hb; exact hb) h)
 | _,_,_,.rints a c h1 h2 h=>by simp only [Eng.ren]; exact .rints a c h1 h2 (h.far hO)
 | _,_,_,.rseq a c vs h1 h2 h3 h hx=>by simp only [Eng.ren]; exact .rseq a c vs h1 h2 h3 (h.far hO) (fun j x hj=>RepL.closed hC hO (hC _ _) (hx j x hj))
 | _,_,_,.rful a vs h2 h3 h hx=>by simp only [Eng.ren]; exact .rful a vs h2 h3 (h.far hO) (fun j x hj=>RepL.closed hC hO (hC _ _) (hx j x hj))
 | _,_,hb,.iface h=>by simp only [Eng.ren]; exact .iface (Rep.ren hC hO hE (by simp only [belowV] at hb; exact hb) h)
 | _,_,hb,.fn us vs ha hb'=>by simp only [Eng.ren]; exact .fn us vs (RepL.ren hC hO hE (by simp only [belowV] at hb; exact (ite_and hb).1) ha) (RepL.ren hC hO hE (by simp only [belowV] at hb; exact (ite_and hb).2) hb')
 | _,_,hb,.agg vs h=>by simp only [Eng.ren]; exact .agg vs (RepL.ren hC hO hE (by simp only [belowV] at hb; exact hb) h)
 | _,_,hb,.tup vs h=>by simp only [Eng.ren]; exact .tup vs (RepL.ren hC hO hE (by simp only [belowV] at hb; exact hb) h)
theorem RepL.ren {f:Nat→Nat} {n:Nat} (hC:∀ t y,belowL 0 (C.enc t y)=true) (hO:∀ b,¬O b→¬owned env b→¬O2 b∧¬owned env2 b) (hE:∀ i,i<n→env2[f i]?=env[i]?):∀ {cs:SL A} {vs:List Value},belowL n cs=true→RepL O env w C cs vs→RepL O2 env2 w C (renL f cs) vs
 | _,_,_,.nil=>by simp only [Eng.renL]; exact .nil
 | _,_,hb,.cell h hr=>by simp only [Eng.renL]; exact .cell (Rep.ren hC hO hE (by simp only [belowL] at hb; exact (ite_and hb).1) h) (RepL.ren hC hO hE (by simp only [belowL] at hb; exact (ite_and hb).2) hr)
 | _,_,hb,.run hn hr=>by simp only [Eng.renL]; exact .run hn (RepL.ren hC hO hE (by simp only [belowL] at hb; exact hb) hr)
end
theorem ORep.ren {f:Nat→Nat} {n:Nat} (hC:∀ t y,belowL 0 (C.enc t y)=true) (hO:∀ b,¬O b→¬owned env b→¬O2 b∧¬owned env2 b) (hE:∀ i,i<n→env2[f i]?=env[i]?) {a:SO A} {x:Wit} (hb:belowO n a=true) (h:ORep O env w C a x):ORep O2 env2 w C (renO f a) x:=by
 cases a with
 | dead=>exact h
 | cells e cs=>
  cases x with
  | blk b=>obtain ⟨vs,h1,h2⟩:=h; exact ⟨vs,h1,h2.ren hC hO hE hb⟩
  | dead=>exact h
  | ro v=>exact h
  | sl v=>exact h
  | mb b=>exact h
 | smap kt vt es st=>cases x with
  | mb b=>exact MapR.imp h rfl (fun _ _ _ h=>h.closed hC hO (hC _ _))
  | dead=>exact h
  | ro v=>exact h
  | sl v=>exact h
  | blk b=>exact h
 | amap kt vt es=>
  cases x with
  | mb b=>obtain ⟨st,h⟩:=h; exact ⟨st,MapR.imp h rfl (fun _ _ _ h=>h.closed hC hO (hC _ _))⟩
  | dead=>exact h
  | sl v=>exact h
  | ro v=>exact h
  | blk b=>exact h
 | rmap kt vt es st c=>
  cases x with
  | mb b=>exact MapRC.imp h rfl (fun _ _ _ h=>h.closed hC hO (hC _ _))
  | dead=>exact h
  | sl v=>exact h
  | ro v=>exact h
  | blk b=>exact h
 | miter s s0 a c=>cases x with
  | blk b=>obtain ⟨bm,sn,h1,h2,h3⟩:=h; exact ⟨bm,sn,h1,h2,h3.ren hC hO hE hb⟩
  | dead=>exact h
  | ro v=>exact h
  | sl v=>exact h
  | mb b=>exact h
 | fr s=>cases x with
  | ro v=>exact Rep.ren hC hO hE hb h
  | dead=>exact h
  | blk v=>exact h
  | sl v=>exact h
  | mb b=>exact h
 | ivec e k xs=>cases x<;>exact h
 | svec e xs=>
  cases x with
  | sl v=>obtain ⟨vs,h1,h2⟩:=h; exact ⟨vs,h1,fun j y hj=>(h2 j y hj).closed hC hO (hC _ _)⟩
  | dead=>exact h
  | ro v=>exact h
  | blk b=>exact h
  | mb b=>exact h
theorem letGos_spec:∀ {l l':List (SV A)} {sh sh':List (SO A)} {env:List Wit} {vs:List Value},HR O env w C sh→letGos sh l=some (l',sh')→ArgsR O env w C l vs →
  ∃ env',HR O env' w C sh'∧Step env w env' w∧ArgsR O env' w C l' vs
 | [],_,_,_,env,vs,hh,h,hr=>by
  simp only [letGos,Option.some.injEq,Prod.mk.injEq] at h
  obtain ⟨rfl,rfl⟩:=h
  exact ⟨env,hh,Step.refl _ _,hr⟩
 | s::l,_,sh,_,env,vs,hh,h,hr=>by
  simp only [letGos] at h
  split at h
  ·rename_i s' sh1 h1
   split at h
   ·rename_i r' sh2 h2
    cases h
    obtain ⟨u,us,rfl,h3,h4⟩:=hr
    obtain ⟨env1,h5,h6,h7⟩:=letGoV_spec hh h1 h3
    obtain ⟨env2,h8,h9,h10⟩:=letGos_spec h5 h2 (argsR_step h6 h4)
    exact ⟨env2,h8,h6.trans h9,u,us,rfl,h7.step h9,h10⟩
   ·cases h
  ·cases h
theorem eqva_rep:∀ {l m:List (SV A)} {vs:List Value},eqva l m→ArgsR O env w C m vs→ArgsR O env w C l vs
 | [],[],_,_,h=>h
 | a::r,b::s,_,h,⟨u,us,e,h1,h2⟩=>⟨u,us,e,eqv_rep h.1 h1,eqva_rep h.2 h2⟩
 | [],_::_,_,h,_=>by simp [eqva] at h
 | _::_,[],_,h,_=>by simp [eqva] at h
theorem argsR_closed (hC:∀ t y,belowL 0 (C.enc t y)=true) (hO:∀ b,¬O b→¬owned env b→¬O2 b∧¬owned env2 b):∀ {l:List (SV A)} {vs:List Value},belowVs 0 l=true→ArgsR O env w C l vs→ArgsR O2 env2 w C l vs
 | [],_,_,h=>h
 | a::r,_,hb,⟨u,us,e,h1,h2⟩=>by
  simp only [belowVs] at hb
  exact ⟨u,us,e,h1.closed hC hO (ite_and hb).1,argsR_closed hC hO (ite_and hb).2 h2⟩
end
theorem belowOs_get {n:Nat}:∀ {l:List (SO A)},belowOs n l=true→∀ (i:Nat) a,l[i]?=some a→belowO n a=true
 | [],_,i,a,h=>by simp at h
 | x::l,hb,i,a,h=>by
  simp only [belowOs] at hb
  obtain ⟨h1,h2⟩:=ite_and hb
  cases i with
  | zero=>simp at h; subst h; exact h1
  | succ i=>exact belowOs_get h2 i a (by simpa using h)
/-- A contract that needs no memory of its caller's. -/
structure Pure (L:LS A) (get:List (SV A)→Option L.X):Prop where
 hin:∀ x,L.hin x=[]
 got:∀ args x,get args=some x→eqva (L.args x) args
 closed:∀ x,belowVs 0 (L.args x)=true
section
variable {E:Eng A}
theorem meets_pure (hS : Sound E) (hG : ∀ g cs, E.GL g = some cs → belowL 0 cs = true) {f : FuncId} {fn : Func} {body : Code} (hf : E.P.funcs[f]? = some fn) (hname : (fn.name == "runtime.NumGoroutine") = false) (hb : fn.body = some body) {L : LS A} {ann : L.X → Anns A} {get : List (SV A) → Option L.X}
  (hL:fnS E fn body L ann) (hp:Pure L get) (q:Bool):Meets E.P E.C E.GL q f (tOf L get):=by
 intro args sh K hk O env w vs ha hh hg
 have hC:=hS.below 0
 unfold tOf at hk
 split at hk
 case h_2=>exact hk.elim
 rename_i args' sh1 hl
 split at hk
 case h_2=>exact hk.elim
 rename_i x hx
 obtain ⟨hpre,hk⟩:=hk
 obtain ⟨env1,hh1,hs1,ha1⟩:=letGos_spec hh hl ha
 have ha2:=eqva_rep (hp.got _ _ hx) ha1
 have hO:∀ b,¬O b→¬owned env1 b→¬(O b∨owned env1 b)∧¬owned [] b:=fun b h1 h2=>⟨fun h=>h.elim h1 h2,fun ⟨i,x,h,_⟩=>by simp at h⟩
 have ha3:=argsR_closed (O2:=fun b=>O b∨owned env1 b) (env2:=[]) hC hO (hp.closed x) ha2
 have hhc:HR (fun b=>O b∨owned env1 b) [] w E.C (L.hin x):=by
  rw [hp.hin]
  exact ⟨rfl,fun i so x h _=>by simp at h,fun i j x y b h _ _ _=>by simp at h,fun b ⟨i,x,h,_⟩=>by simp at h,fun b ⟨i,x,h,_⟩=>by simp at h,fun b h=>h.elim (hh1.olt b) (hh1.lt b)⟩
 have hgc:Glob E.GL (fun b=>O b∨owned env1 b) [] w E.C:=fun g cs h=>(hg.step hs1 g cs h).closed hC hO (by simp only [belowV]; exact hG g cs h)
 have hcall:=fn_local hS hf hname hb hL (fun x _=>by rw [hp.hin]; simp) hpre ha3 hhc hgc
 intro o a next Q hn
 refine hcall o a next Q (fun v w' ⟨envc,hr,hhr,hst,hbv,hbo⟩=>hn v w' ?_)
 have hold:∀ b,b<w.heap.size→w'.heap[b]?=w.heap[b]?:=fun b hb=>hst.cells b hb (fun ⟨i,x,h,_⟩=>by simp at h)
 have hout:∀ b,owned envc b→¬O b∧¬owned env1 b:=fun b h=>⟨fun h1=>hhr.out b h (.inl h1),fun h1=>hhr.out b h (.inr h1)⟩
 have hstep:∀ env0,(∀ b,owned env0 b→b<w.heap.size)→Step env0 w (env0++envc) w':=fun env0 h0=>
  ⟨hst.os,hst.tape,hst.output,hst.size,by simp,fun i x hx=>⟨x,by rw [List.getElem?_append_left (List.getElem?_eq_some_iff.1 hx).1]; exact hx,.refl x⟩,
   fun b ⟨i,x,hx,ho⟩=>by
    rcases Nat.lt_or_ge i env0.length with hi | hi
    ·rw [List.getElem?_append_left hi] at hx; exact .inl ⟨i,x,hx,ho⟩
    ·rw [List.getElem?_append_right hi] at hx
     exact .inr ((hst.fresh b ⟨_,x,hx,ho⟩).elim (fun ⟨i,x,h,_⟩=>by simp at h) id),
   fun b hb _=>hold b hb⟩
 have hown:∀ b,owned (env1++envc) b→owned env1 b∨owned envc b:=fun b ⟨i,x,hx,ho⟩=>by
  rcases Nat.lt_or_ge i env1.length with hi | hi
  ·rw [List.getElem?_append_left hi] at hx; exact .inl ⟨i,x,hx,ho⟩
  ·rw [List.getElem?_append_right hi] at hx; exact .inr ⟨_,x,hx,ho⟩
 have hjoin:HR O (env1++envc) w' E.C (sh1++(L.hout x).map (renO fun i=>sh1.length+i)):=by
  have hst1:=hstep env1 hh1.lt
  refine ⟨by simp [hh1.len,hhr.len],fun i so x h1 h2=>?_,fun i j y z b h1 h2 h3 h4=>?_,fun b hb=>?_,fun b hb=>?_,fun b hb=>Nat.lt_of_lt_of_le (hh1.olt b hb) hst.size⟩
  ·rcases Nat.lt_or_ge i env1.length with hi | hi
   ·rw [List.getElem?_append_left (by rw [hh1.len]; exact hi)] at h1
    rw [List.getElem?_append_left hi] at h2
    exact (hh1.rep i so x h1 h2).step hst1 (fun b hb=>hold b (hh1.lt b ⟨i,x,h2,hb⟩))
   ·rw [List.getElem?_append_right (by rw [hh1.len]; exact hi)] at h1
    rw [List.getElem?_append_right hi] at h2
    rw [hh1.len,List.getElem?_map] at h1
    cases ho:(L.hout _)[i-env1.length]? with
    | none=>rw [ho] at h1; simp at h1
    | some so'=>
     rw [ho] at h1
     simp only [Option.map_some,Option.some.injEq] at h1
     subst h1
     have h3:=hhr.rep _ so' x ho h2
     refine h3.ren (n:=(L.hout _).length) hC (fun b h4 h5=>⟨fun h6=>h4 (.inl h6),fun h6=>(hown b h6).elim (fun h7=>h4 (.inr h7)) h5⟩) (fun j hj=>?_) (belowOs_get hbo _ _ ho)
     rw [List.getElem?_append_right (by omega)]
     congr 1; omega
  ·have key:∀ (i:Nat) y,(env1++envc)[i]?=some y→y.owns b→(i<env1.length∧env1[i]?=some y)∨(env1.length≤i∧envc[i-env1.length]?=some y):=by
    intro i y h _
    rcases Nat.lt_or_ge i env1.length with hi | hi
    ·rw [List.getElem?_append_left hi] at h; exact .inl ⟨hi,h⟩
    ·rw [List.getElem?_append_right hi] at h; exact .inr ⟨hi,h⟩
   rcases key i y h1 h3 with ⟨h5,h6⟩ | ⟨h5,h6⟩<;>rcases key j z h2 h4 with ⟨h7,h8⟩ | ⟨h7,h8⟩
   ·exact hh1.disj i j y z b h6 h8 h3 h4
   ·exact ((hout b ⟨_,z,h8,h4⟩).2 ⟨i,y,h6,h3⟩).elim
   ·exact ((hout b ⟨_,y,h6,h3⟩).2 ⟨j,z,h8,h4⟩).elim
   ·have:=hhr.disj _ _ y z b h6 h8 h3 h4; omega
  ·rcases hown b hb with h | h
   ·exact hh1.out b h
   ·exact (hout b h).1
  ·rcases hown b hb with h | h
   ·exact Nat.lt_of_lt_of_le (hh1.lt b h) hst.size
   ·exact hhr.lt b h
 have hrep:Rep O (env1++envc) w' E.C (ren (fun i=>sh1.length+i) (resV (L.res x))) v:=by
  refine hr.ren (n:=(L.hout x).length) hC (fun b h4 h5=>⟨fun h6=>h4 (.inl h6),fun h6=>(hown b h6).elim (fun h7=>h4 (.inr h7)) h5⟩) (fun j hj=>?_) hbv
  show (env1++envc)[sh1.length+j]?=_
  rw [hh1.len,List.getElem?_append_right (by omega)]
  congr 1; omega
 split at hk
 ·rename_i hnil
  have henvc:envc=[]:=by
   have:=hhr.len
   rw [hnil] at this
   exact List.eq_nil_of_length_eq_zero this.symm
  subst henvc
  split at hk
  ·rename_i hpl
   have hs0:Step env w env w':=by simpa using hstep env hh.lt
   refine ⟨_,sh,env,Rep.plain hpl hr,⟨hh.len,fun i so y h1 h2=>(hh.rep i so y h1 h2).step hs0 (fun b hb=>hold b (hh.lt b ⟨i,y,h2,hb⟩)),hh.disj,hh.out,fun b hb=>Nat.lt_of_lt_of_le (hh.lt b hb) hst.size,fun b hb=>Nat.lt_of_lt_of_le (hh.olt b hb) hst.size⟩,hs0,fun _=>⟨hst.size,hold⟩,hk⟩
  ·simp only [List.append_nil,hnil,List.map_nil] at hjoin
   have hs2:Step env w env1 w':=hs1.trans (by simpa using hstep env1 hh1.lt)
   refine ⟨_,sh1,env1,Rep.closed hC (fun b h1 h2=>⟨fun h=>h1 (.inl h),fun h=>h1 (.inr h)⟩) (by rw [hnil] at hbv; exact hbv) hr,hjoin,hs2,fun _=>⟨hst.size,hold⟩,hk⟩
 ·rw [cnt_eq,joinL_eq,renOs_eq] at hk
  exact ⟨_,_,_,hrep,hjoin,hs1.trans (hstep env1 hh1.lt),fun _=>⟨hst.size,hold⟩,hk⟩
end
/-- A contract with two ends. -/
structure LS2 (A:Nat→Type) where
 X:Type
 c:X→Bool
 args:X→List (SV A)
 yes:X→List (SV A)
 no:X→List (SV A)
def LS2.one (L:LS2 A) (b:Bool):LS A where
 X:=L.X
 pre:=fun x=>L.c x=b
 args:=L.args
 hin:=fun _=>[]
 res:=fun x=>match b with
  | true=>L.yes x
  | false=>L.no x
 hout:=fun _=>[]
def tIf (L:LS2 A) (get:List (SV A)→Option L.X):SpecT A:=fun args sh K=>match letGos sh args with
 | some (args',sh1)=>match get args' with
  | some x=>(L.c x=true→if plainV (resV (L.yes x)) then K (resV (L.yes x)) sh else K (resV (L.yes x)) sh1) ∧
   (L.c x=false→if plainV (resV (L.no x)) then K (resV (L.no x)) sh else K (resV (L.no x)) sh1)
  | none=>False
 | none=>False
theorem meets_if {P:Program} {C:Enc A} {GL:Nat→Option (SL A)} {q:Bool} {f:FuncId} {L:LS2 A} {get:List (SV A)→Option L.X}
  (h1:Meets P C GL q f (tOf (L.one true) get)) (h2:Meets P C GL q f (tOf (L.one false) get)):Meets P C GL q f (tIf L get):=by
 intro args sh K hk
 unfold tIf at hk
 split at hk
 case h_2=>exact hk.elim
 rename_i args' sh1 hl
 split at hk
 case h_2=>exact hk.elim
 rename_i x hx
 cases hc:L.c x with
 | true=>
  refine h1 args sh K ?_
  unfold tOf
  rw [hl]
  simp only
  have hx':get args'=some x:=hx
  rw [show (get args':Option (L.one true).X)=some x from hx']
  exact ⟨hc,hk.1 hc⟩
 | false=>
  refine h2 args sh K ?_
  unfold tOf
  rw [hl]
  simp only
  have hx':get args'=some x:=hx
  rw [show (get args':Option (L.one false).X)=some x from hx']
  exact ⟨hc,hk.2 hc⟩
end Go.Eng

/-! The engine is right: a function that is lent memory, called from anywhere; a function that is walked where it is called. Conditions: none. -/
namespace Go.Eng
open Go
variable {A:Nat→Type}
mutual
/-- Does it speak of nothing that is read alone? -/
def ownV:SV A→Bool
 | .rptr _ _=>false
 | .rints _ _=>false
 | .rseq _ _=>false
 | .rful _ _=>false
 | .iface _ v=>ownV v
 | .fn _ a b=>if ownL a then ownL b else false
 | .agg cs=>ownL cs
 | .tup cs=>ownL cs
 | _=>true
def ownL:SL A→Bool
 | .nil=>true
 | .cell v r=>if ownV v then ownL r else false
 | .run _ _ _ r=>ownL r
end
def ownO:SO A→Bool
 | .dead=>true
 | .cells _ cs=>ownL cs
 | .ivec _ _ _=>true
 | _=>false
def ownOs:List (SO A)→Bool
 | []=>true
 | o::l=>if ownO o then ownOs l else false
/-- Where a callee's entry lies with its caller. -/
def place (σ:List (SV A)) (N k:Nat):Nat:=match nth σ k with
 | some s=>match srcOf s with
  | some j=>j
  | none=>N+k
 | none=>N+k
def layB {α:Type _}:List α→List (SV A)→List α→List α
 | xs,[],_=>xs
 | xs,_::_,[]=>xs
 | xs,s::σ,y::l=>match srcOf s with
  | some j=>layB (setNth xs j y) σ l
  | none=>layB xs σ l
def apd {α:Type _} (d:α):List (SV A)→List α→List α
 | [],l=>l
 | _::_,[]=>[]
 | s::σ,y::l=>(match srcOf s with
  | some _=>d
  | none=>y)::apd d σ l
/-- What a caller knows of a call to which it lends memory. -/
def tLent (L:LS A) (get:List (SV A)→List (SO A)→Option L.X):SpecT A:=fun args sh K=>match get args sh with
 | none=>False
 | some x=>match endS sh (L.args x) args with
  | none=>False
  | some (args',sh1)=>match srcs (closeM 0 sh1 (L.hin x) (closeM 0 sh1 (L.hin x) (findSlots 0 args' sh1 (slotsFrom 0 (L.args x))))) 0 (cnt (L.hin x)) with
   | none=>False
   | some σ=>if okOs 0 σ (L.hin x) then (if okSlots 0 σ (slotsFrom 0 (L.args x)) then (if distinct [] σ [] then
     slotsAre 0 σ args' sh1 (slotsFrom 0 (L.args x))∧moreIs 0 σ sh1 (L.hin x) σ∧L.pre x ∧
     K (ren (place σ (cnt sh)) (resV (L.res x)))
      (joinL (layB (if ownV (resV (L.res x)) then (if ownOs (L.hout x) then sh else sh1) else sh1) σ (renOs (place σ (cnt sh)) (L.hout x))) (apd .dead σ (renOs (place σ (cnt sh)) (L.hout x))))
    else False) else False) else False
section
variable {O O2:Nat→Prop} {env env2:List Wit} {w w2:World} {C:Enc A}
mutual
/-- From one heap into another; what speaks of nothing that is read alone, into any. -/
theorem Rep.ren2 {f:Nat→Nat} {n:Nat} (hC:∀ t y,belowL 0 (C.enc t y)=true) (hE:∀ i,i<n→env2[f i]?=env[i]?):∀ {s:SV A} {v:Value},((∀ b,¬O b→¬owned env b→¬O2 b∧¬owned env2 b)∨ownV s=true)→belowV n s=true→Rep O env w C s v→Rep O2 env2 w C (ren f s) v
 | _,_,_,_,.junk=>by simp only [Eng.ren]; exact .junk
 | _,_,_,_,.undef=>by simp only [Eng.ren]; exact .undef
 | _,_,_,_,.val=>by simp only [Eng.ren]; exact .val
 | _,_,_,_,.int=>by simp only [Eng.ren]; exact .int
 | _,_,_,_,.lit=>by simp only [Eng.ren]; exact .lit
 | _,_,_,_,.bl=>by simp only [Eng.ren]; exact .bl
 | _,_,_,_,.sb=>by simp only [Eng.ren]; exact .sb
 | _,_,_,_,.err h=>by simp only [Eng.ren]; exact .err h
 | _,_,_,hb,.ptr h=>by simp only [Eng.ren]; exact .ptr (h.ren hE (ite_tt (by simp only [belowV] at hb; exact hb)))
 | _,_,_,hb,.aptr h=>by simp only [Eng.ren]; exact .aptr (h.ren hE (ite_tt (by simp only [belowV] at hb; exact hb)))
 | _,_,_,hb,.asl h=>by simp only [Eng.ren]; exact .asl (h.ren hE (ite_tt (by simp only [belowV] at hb; exact hb)))
 | _,_,_,hb,.vec h=>by simp only [Eng.ren]; exact .vec (h.ren hE (ite_tt (by simp only [belowV] at hb; exact hb)))
 | _,_,_,hb,.vptr h=>by simp only [Eng.ren]; exact .vptr (h.ren hE (ite_tt (by simp only [belowV] at hb; exact hb)))
 | _,_,hO,hb,.rptr b o vs h1 h2 hl hcl h=>by
  simp only [Eng.ren]
  rcases hO with hO | hO
  ·exact .rptr b o vs (hO b h1 h2).1 (hO b h1 h2).2 hl hcl (RepL.ren2 hC hE (.inl hO) (by simp only [belowV] at hb; exact hb) h)
  ·simp [ownV] at hO
 | _,_,hO,_,.rints a c h1 h2 h=>by
  simp only [Eng.ren]
  rcases hO with hO | hO
  ·exact .rints a c h1 h2 (h.far hO)
  ·simp [ownV] at hO
 | _,_,hO,_,.rseq a c vs h1 h2 h3 h hx=>by
  simp only [Eng.ren]
  rcases hO with hO | hO
  ·exact .rseq a c vs h1 h2 h3 (h.far hO) (fun j x hj=>RepL.closed hC hO (hC _ _) (hx j x hj))
  ·simp [ownV] at hO
 | _,_,hO,_,.rful a vs h2 h3 h hx=>by
  simp only [Eng.ren]
  rcases hO with hO | hO
  ·exact .rful a vs h2 h3 (h.far hO) (fun j x hj=>RepL.closed hC hO (hC _ _) (hx j x hj))
  ·simp [ownV] at hO
 | _,_,hO,hb,.iface h=>by simp only [Eng.ren]; exact .iface (Rep.ren2 hC hE (hO.imp id (fun h=>by simpa only [ownV] using h)) (by simp only [belowV] at hb; exact hb) h)
 | _,_,hO,hb,.fn us vs ha hb'=>by simp only [Eng.ren]; exact .fn us vs (RepL.ren2 hC hE (hO.imp id (fun h=>by simp only [ownV] at h; exact (ite_and h).1)) (by simp only [belowV] at hb; exact (ite_and hb).1) ha) (RepL.ren2 hC hE (hO.imp id (fun h=>by simp only [ownV] at h; exact (ite_and h).2)) (by simp only [belowV] at hb; exact (ite_and hb).2) hb')
 | _,_,hO,hb,.agg vs h=>by simp only [Eng.ren]; exact .agg vs (RepL.ren2 hC hE (hO.imp id (fun h=>by simpa only [ownV] using h)) (by simp only [belowV] at hb; exact hb) h)
 | _,_,hO,hb,.tup vs h=>by simp only [Eng.ren]; exact .tup vs (RepL.ren2 hC hE (hO.imp id (fun h=>by simpa only [ownV] using h)) (by simp only [belowV] at hb; exact hb) h)
theorem RepL.ren2 {f:Nat→Nat} {n:Nat} (hC:∀ t y,belowL 0 (C.enc t y)=true) (hE:∀ i,i<n→env2[f i]?=env[i]?):∀ {cs:SL A} {vs:List Value},((∀ b,¬O b→¬owned env b→¬O2 b∧¬owned env2 b)∨ownL cs=true)→belowL n cs=true→RepL O env w C cs vs→RepL O2 env2 w C (renL f cs) vs
 | _,_,_,_,.nil=>by simp only [Eng.renL]; exact .nil
 | _,_,hO,hb,.cell h hr=>by simp only [Eng.renL]; exact .cell (Rep.ren2 hC hE (hO.imp id (fun h=>by simp only [ownL] at h; exact (ite_and h).1)) (by simp only [belowL] at hb; exact (ite_and hb).1) h) (RepL.ren2 hC hE (hO.imp id (fun h=>by simp only [ownL] at h; exact (ite_and h).2)) (by simp only [belowL] at hb; exact (ite_and hb).2) hr)
 | _,_,hO,hb,.run hn hr=>by simp only [Eng.renL]; exact .run hn (RepL.ren2 hC hE (hO.imp id (fun h=>by simpa only [ownL] using h)) (by simp only [belowL] at hb; exact hb) hr)
end
theorem ORep.ren2 {f:Nat→Nat} {n:Nat} (hC:∀ t y,belowL 0 (C.enc t y)=true) (hE:∀ i,i<n→env2[f i]?=env[i]?) {a:SO A} {x:Wit} (hO:(∀ b,¬O b→¬owned env b→¬O2 b∧¬owned env2 b)∨ownO a=true) (hb:belowO n a=true) (h:ORep O env w C a x):ORep O2 env2 w C (renO f a) x:=by
 cases a with
 | dead=>exact h
 | cells e cs=>
  cases x with
  | blk b=>obtain ⟨vs,h1,h2⟩:=h; exact ⟨vs,h1,h2.ren2 hC hE hO hb⟩
  | dead=>exact h
  | ro v=>exact h
  | sl v=>exact h
  | mb b=>exact h
 | smap kt vt es st=>cases x with
  | mb b=>
   rcases hO with hO | hO
   ·exact MapR.imp h rfl (fun _ _ _ h=>h.closed hC hO (hC _ _))
   ·cases hO
  | dead=>exact h
  | ro v=>exact h
  | sl v=>exact h
  | blk b=>exact h
 | amap kt vt es=>cases x with
  | mb b=>
   rcases hO with hO | hO
   ·obtain ⟨st,h⟩:=h
    exact ⟨st,MapR.imp h rfl (fun _ _ _ h=>h.closed hC hO (hC _ _))⟩
   ·cases hO
  | dead=>exact h
  | ro v=>exact h
  | sl v=>exact h
  | blk b=>exact h
 | rmap kt vt es st c=>cases x with
  | mb b=>
   rcases hO with hO | hO
   ·exact MapRC.imp h rfl (fun _ _ _ h=>h.closed hC hO (hC _ _))
   ·cases hO
  | dead=>exact h
  | ro v=>exact h
  | sl v=>exact h
  | blk b=>exact h
 | miter s s0 a c=>cases x with
  | blk b=>
   rcases hO with hO | hO
   ·obtain ⟨bm,sn,h1,h2,h3⟩:=h
    exact ⟨bm,sn,h1,h2,Rep.ren2 hC hE (.inl hO) hb h3⟩
   ·cases hO
  | dead=>exact h
  | ro v=>exact h
  | sl v=>exact h
  | mb b=>exact h
 | fr s=>cases x with
  | ro v=>
   rcases hO with hO | hO
   ·exact Rep.ren2 hC hE (.inl hO) hb h
   ·cases hO
  | dead=>exact h
  | blk v=>exact h
  | sl v=>exact h
  | mb b=>exact h
 | ivec e k xs=>cases x<;>exact h
 | svec e xs=>
  cases x with
  | sl v=>
   rcases hO with hO | hO
   ·obtain ⟨vs,h1,h2⟩:=h; exact ⟨vs,h1,fun j y hj=>(h2 j y hj).closed hC hO (hC _ _)⟩
   ·cases hO
  | dead=>exact h
  | ro v=>exact h
  | blk b=>exact h
  | mb b=>exact h
end
theorem ownOs_get:∀ {l:List (SO A)},ownOs l=true→∀ (i:Nat) a,l[i]?=some a→ownO a=true
 | [],_,i,a,h=>by simp at h
 | x::l,hb,i,a,h=>by
  simp only [ownOs] at hb
  obtain ⟨h1,h2⟩:=ite_and hb
  cases i with
  | zero=>simp at h; subst h; exact h1
  | succ i=>exact ownOs_get h2 i a (by simpa using h)
section
variable {α:Type _}
theorem layB_len:∀ {σ:List (SV A)} {xs l:List α},(layB xs σ l).length=xs.length
 | [],xs,l=>by simp [layB]
 | _::_,xs,[]=>by simp [layB]
 | s::σ,xs,y::l=>by
  simp only [layB]
  split
  ·rw [layB_len,setNth_eq,List.length_set]
  ·exact layB_len
theorem apd_len {d:α}:∀ {σ:List (SV A)} {l:List α},(apd d σ l).length=l.length
 | [],l=>rfl
 | _::_,[]=>rfl
 | s::σ,y::l=>by simp [apd,apd_len]
theorem layB_out {i:Nat}:∀ {σ:List (SV A)} {xs l:List α},(∀ (k:Nat) s,σ[k]?=some s→srcOf s≠some i)→(layB xs σ l)[i]?=xs[i]?
 | [],xs,l,_=>by simp [layB]
 | _::_,xs,[],_=>by simp [layB]
 | s::σ,xs,y::l,h=>by
  have h1:=h 0 s rfl
  have h2:∀ (k:Nat) s,σ[k]?=some s→srcOf s≠some i:=fun k s hk=>h (k+1) s (by simpa using hk)
  simp only [layB]
  split
  ·rename_i j hj
   rw [layB_out h2,setNth_eq,List.getElem?_set_ne (fun e=>h1 (by rw [hj,e]))]
  ·exact layB_out h2
theorem layB_in {j:Nat} {y:α}:∀ {σ:List (SV A)} {xs l:List α} {k:Nat} {s:SV A},(∀ (k k':Nat) s s' j,σ[k]?=some s→σ[k']?=some s'→srcOf s=some j→srcOf s'=some j→k=k') →
  σ[k]?=some s→srcOf s=some j→l[k]?=some y→j<xs.length→(layB xs σ l)[j]?=some y
 | [],xs,l,k,s,_,h,_,_,_=>by simp at h
 | _::_,xs,[],k,s,_,_,_,h,_=>by simp at h
 | s0::σ,xs,z::l,k,s,hd,hk,hs,hl,hj=>by
  have hd':∀ (k k':Nat) s s' j,σ[k]?=some s→σ[k']?=some s'→srcOf s=some j→srcOf s'=some j→k=k':=fun k k' s s' j h1 h2 h3 h4=>by
   have:=hd (k+1) (k'+1) s s' j (by simpa using h1) (by simpa using h2) h3 h4
   omega
  cases k with
  | zero=>
   simp at hk hl
   subst hk; subst hl
   have hout:∀ (k:Nat) s,σ[k]?=some s→srcOf s≠some j:=fun k s hk e=>by
    have:=hd 0 (k+1) s0 s j rfl (by simpa using hk) hs e
    omega
   simp only [layB,hs]
   rw [layB_out hout,setNth_eq,List.getElem?_set_self hj]
  | succ k=>
   simp only [layB]
   split
   ·exact layB_in hd' (by simpa using hk) hs (by simpa using hl) (by rw [setNth_eq,List.length_set]; exact hj)
   ·exact layB_in hd' (by simpa using hk) hs (by simpa using hl) hj
theorem apd_get {d:α}:∀ {σ:List (SV A)} {l:List α} {k:Nat} {y:α},l[k]?=some y→(apd d σ l)[k]?=some (match σ[k]? with
  | some s=>match srcOf s with
   | some _=>d
   | none=>y
  | none=>y)
 | [],l,k,y,h=>by simpa [apd] using h
 | _::_,[],k,y,h=>by simp at h
 | s::σ,z::l,0,y,h=>by simp at h; subst h; simp [apd]
 | s::σ,z::l,k+1,y,h=>by simp [apd,apd_get (σ:=σ) (l:=l) (k:=k) (y:=y) (d:=d) (by simpa using h)]
/-- An entry, at its place. -/
theorem lay_at {d y:α} {σ:List (SV A)} {xs l:List α} {k N:Nat} (hN:xs.length=N) (hd:∀ (k k':Nat) s s' j,σ[k]?=some s→σ[k']?=some s'→srcOf s=some j→srcOf s'=some j→k=k')
  (hlt:∀ (k:Nat) s j,σ[k]?=some s→srcOf s=some j→j<N) (h:l[k]?=some y):(layB xs σ l++apd d σ l)[place σ N k]?=some y:=by
 have hl:(layB xs σ l).length=N:=by rw [layB_len,hN]
 have hap:=apd_get (d:=d) (σ:=σ) h
 have hnew:(layB xs σ l++apd d σ l)[N+k]?=(apd d σ l)[k]?:=by
  rw [List.getElem?_append_right (by rw [hl]; omega),hl]; congr 1; omega
 unfold place
 rw [nth_eq]
 cases hs:σ[k]? with
 | none=>simp only; rw [hnew,hap,hs]
 | some s=>
  simp only
  cases hj:srcOf s with
  | none=>simp only; rw [hnew,hap,hs]; simp only [hj]
  | some j=>
   simp only
   have h1:=hlt k s j hs hj
   rw [List.getElem?_append_left (by rw [hl]; exact h1)]
   exact layB_in hd hs hj h (by rw [hN]; exact h1)
theorem lay_dead {d y:α} {σ:List (SV A)} {xs l:List α} {k N j:Nat} {s:SV A} (hN:xs.length=N) (h:l[k]?=some y) (hs:σ[k]?=some s) (hj:srcOf s=some j):(layB xs σ l++apd d σ l)[N+k]?=some d:=by
 have hl:(layB xs σ l).length=N:=by rw [layB_len,hN]
 have hap:=apd_get (d:=d) (σ:=σ) h
 rw [List.getElem?_append_right (by rw [hl]; omega),hl,show N+k-N=k from by omega,hap,hs]
 simp only [hj]
theorem lay_out {d:α} {σ:List (SV A)} {xs l:List α} {i N:Nat} (hN:xs.length=N) (hi:i<N) (h:∀ (k:Nat) s,σ[k]?=some s→srcOf s≠some i):(layB xs σ l++apd d σ l)[i]?=xs[i]?:=by
 have hl:(layB xs σ l).length=N:=by rw [layB_len,hN]
 rw [List.getElem?_append_left (by rw [hl]; exact hi),layB_out h]
/-- Which entries there are. -/
theorem lay_cases {d y:α} {σ:List (SV A)} {xs l:List α} {i N:Nat} (hN:xs.length=N) (hd:∀ (k k':Nat) s s' j,σ[k]?=some s→σ[k']?=some s'→srcOf s=some j→srcOf s'=some j→k=k')
  (hlt:∀ (k:Nat) s j,σ[k]?=some s→srcOf s=some j→j<N) (hle:σ.length≤l.length) (h:(layB xs σ l++apd d σ l)[i]?=some y) :
  (i<N∧(∀ (k:Nat) s,σ[k]?=some s→srcOf s≠some i)∧xs[i]?=some y)∨(∃ k,k<l.length∧i=place σ N k∧l[k]?=some y)∨(y=d∧∃ k s j,k<l.length∧i=N+k∧σ[k]?=some s∧srcOf s=some j):=by
 have hl:(layB xs σ l).length=N:=by rw [layB_len,hN]
 rcases Nat.lt_or_ge i N with hi | hi
 ·by_cases hex:∃ (k:Nat) (s:SV A),σ[k]?=some s∧srcOf s=some i
  ·obtain ⟨k,s,hs,hj⟩:=hex
   have hk:k<l.length:=by have:=(List.getElem?_eq_some_iff.1 hs).1; omega
   have hy:=lay_at (d:=d) (xs:=xs) hN hd hlt (List.getElem?_eq_getElem hk)
   have hp:place σ N k=i:=by unfold place; rw [nth_eq,hs]; simp only [hj]
   rw [hp,h] at hy
   exact .inr (.inl ⟨k,hk,hp.symm,by rw [List.getElem?_eq_getElem hk]; exact hy.symm⟩)
  ·have hout:∀ (k:Nat) s,σ[k]?=some s→srcOf s≠some i:=fun k s h1 h2=>hex ⟨k,s,h1,h2⟩
   rw [lay_out hN hi hout] at h
   exact .inl ⟨hi,hout,h⟩
 ·rw [List.getElem?_append_right (by rw [hl]; exact hi),hl] at h
  have hk:i-N<l.length:=by
   have:=(List.getElem?_eq_some_iff.1 h).1
   rwa [apd_len] at this
  have hap:=apd_get (d:=d) (σ:=σ) (List.getElem?_eq_getElem hk)
  rw [h] at hap
  cases hs:σ[i-N]? with
  | none=>
   rw [hs] at hap
   simp only [Option.some.injEq] at hap
   refine .inr (.inl ⟨i-N,hk,?_,by rw [List.getElem?_eq_getElem hk,hap]⟩)
   unfold place; rw [nth_eq,hs]; simp only; omega
  | some s=>
   rw [hs] at hap
   simp only at hap
   cases hj:srcOf s with
   | none=>
    rw [hj] at hap
    simp only [Option.some.injEq] at hap
    refine .inr (.inl ⟨i-N,hk,?_,by rw [List.getElem?_eq_getElem hk,hap]⟩)
    unfold place; rw [nth_eq,hs]; simp only [hj]; omega
   | some j=>
    rw [hj] at hap
    simp only [Option.some.injEq] at hap
    exact .inr (.inr ⟨hap,i-N,s,j,hk,by omega,hs,hj⟩)
end
section
variable {O O':Nat→Prop} {envB envc0 envc:List Wit} {w w':World} {C:Enc A}
/-- What a callee leaves, with its caller. -/
theorem put_back {shB hout:List (SO A)} {σ:List (SV A)} {res:SV A} {v:Value} (hC:∀ t y,belowL 0 (C.enc t y)=true) (hh:HR O envB w C shB)
  (hd:∀ (k k':Nat) s s' j,σ[k]?=some s→σ[k']?=some s'→srcOf s=some j→srcOf s'=some j→k=k')
  (h0:∀ (k:Nat) s j,σ[k]?=some s→srcOf s=some j→∃ x,envB[j]?=some x∧envc0[k]?=some x)
  (h0':∀ (k:Nat) x b,envc0[k]?=some x→x.owns b→∃ s j,σ[k]?=some s∧srcOf s=some j) (hl0:envc0.length=σ.length)
  (hOO:∀ b,O b→O' b) (hhc:HR O' envc w' C hout) (hst:Step envc0 w envc w') (hbv:belowV hout.length res=true) (hbo:belowOs hout.length hout=true) (hr:Rep O' envc w' C res v)
  (hT:(∀ b,¬O' b→¬owned envc b→¬O b∧∀ (i:Nat) x,envB[i]?=some x→x.owns b→∃ (k:Nat) (s:SV A),σ[k]?=some s∧srcOf s=some i)∨(ownV res=true∧ownOs hout=true)) :
  HR O (layB envB σ envc++apd .dead σ envc) w' C (layB shB σ (hout.map (renO (place σ shB.length)))++apd .dead σ (hout.map (renO (place σ shB.length)))) ∧
   Step envB w (layB envB σ envc++apd .dead σ envc) w'∧Rep O (layB envB σ envc++apd .dead σ envc) w' C (ren (place σ shB.length) res) v:=by
 have hN:envB.length=shB.length:=hh.len.symm
 have hlt:∀ (k:Nat) s j,σ[k]?=some s→srcOf s=some j→j<shB.length:=fun k s j h1 h2=>by
  obtain ⟨x,h3,_⟩:=h0 k s j h1 h2
  have:=(List.getElem?_eq_some_iff.1 h3).1
  omega
 have hle:σ.length≤envc.length:=by rw [← hl0]; exact hst.elen
 have hcl:hout.length=envc.length:=hhc.len
 have hcases:=fun (i:Nat) (y:Wit) (h:(layB envB σ envc++apd .dead σ envc)[i]?=some y)=>lay_cases hN hd hlt hle h
 -- who owns what
 have hown0:∀ b,owned envc0 b→∃ (i:Nat) (k:Nat) (s:SV A) (x:Wit),σ[k]?=some s∧srcOf s=some i∧envB[i]?=some x∧x.owns b:=fun b ⟨k,x,hx,ho⟩=>by
  obtain ⟨s,j,hs,hj⟩:=h0' k x b hx ho
  obtain ⟨y,h1,h2⟩:=h0 k s j hs hj
  rw [hx] at h2; cases h2
  exact ⟨j,k,s,x,hs,hj,h1,ho⟩
 have hunl:∀ (i:Nat) x b,(∀ (k:Nat) s,σ[k]?=some s→srcOf s≠some i)→envB[i]?=some x→x.owns b→¬owned envc0 b:=fun i x b hu hx ho hc=>by
  obtain ⟨i',k,s,y,h1,h2,h3,h4⟩:=hown0 b hc
  have:=hh.disj i i' x y b hx h3 ho h4
  subst this
  exact hu k s h1 h2
 have hunc:∀ (i:Nat) x b,(∀ (k:Nat) s,σ[k]?=some s→srcOf s≠some i)→envB[i]?=some x→x.owns b→¬owned envc b:=fun i x b hu hx ho hc=>by
  rcases hst.fresh b hc with h1 | h1
  ·exact hunl i x b hu hx ho h1
  ·have:=hh.lt b ⟨i,x,hx,ho⟩; omega
 have hown:∀ b,owned (layB envB σ envc++apd .dead σ envc) b→(∃ (i:Nat) (x:Wit),(∀ (k:Nat) s,σ[k]?=some s→srcOf s≠some i)∧envB[i]?=some x∧x.owns b)∨owned envc b:=fun b ⟨i,x,hx,ho⟩=>by
  rcases hcases i x hx with ⟨_,h1,h2⟩ | ⟨k,_,_,h2⟩ | ⟨h1,_⟩
  ·exact .inl ⟨i,x,h1,h2,ho⟩
  ·exact .inr ⟨k,x,h2,ho⟩
  ·rw [h1] at ho; exact ho.elim
 have hEE:∀ k,k<hout.length→(layB envB σ envc++apd .dead σ envc)[place σ shB.length k]?=envc[k]?:=fun k hk=>by
  rw [lay_at hN hd hlt (List.getElem?_eq_getElem (by omega))]; exact (List.getElem?_eq_getElem (by omega)).symm
 have hTT:(∀ b,¬O' b→¬owned envc b→¬O b∧¬owned (layB envB σ envc++apd .dead σ envc) b)∨(ownV res=true∧ownOs hout=true):=hT.imp (fun h b h1 h2=>⟨(h b h1 h2).1,fun h3=>by
  rcases hown b h3 with ⟨i,x,hu,h4,h5⟩ | h4
  ·obtain ⟨k,s,h6,h7⟩:=(h b h1 h2).2 i x h4 h5
   exact hu k s h6 h7
  ·exact h2 h4⟩) id
 have hstep:Step envB w (layB envB σ envc++apd .dead σ envc) w':=by
  refine ⟨hst.os,hst.tape,hst.output,hst.size,by rw [List.length_append,layB_len]; omega,fun i x hx=>?_,fun b hb=>?_,fun b hb hn=>hst.cells b hb (fun hc=>?_)⟩
  ·by_cases hex:∃ (k:Nat) (s:SV A),σ[k]?=some s∧srcOf s=some i
   ·obtain ⟨k,s,hs,hj⟩:=hex
    obtain ⟨y,h1,h2⟩:=h0 k s i hs hj
    rw [hx] at h1; cases h1
    obtain ⟨z,h3,h4⟩:=hst.keep k x h2
    refine ⟨z,?_,h4⟩
    have:=lay_at (d:=Wit.dead) hN hd hlt h3
    have hp:place σ shB.length k=i:=by unfold place; rw [nth_eq,hs]; simp only [hj]
    rwa [hp] at this
   ·refine ⟨x,?_,.refl x⟩
    rw [lay_out hN (by have:=(List.getElem?_eq_some_iff.1 hx).1; omega) (fun k s h1 h2=>hex ⟨k,s,h1,h2⟩)]; exact hx
  ·rcases hown b hb with ⟨i,x,_,h1,h2⟩ | h1
   ·exact .inl ⟨i,x,h1,h2⟩
   ·rcases hst.fresh b h1 with h2 | h2
    ·obtain ⟨i,_,_,x,_,_,h3,h4⟩:=hown0 b h2
     exact .inl ⟨i,x,h3,h4⟩
    ·exact .inr h2
  ·obtain ⟨i,_,_,x,_,_,h3,h4⟩:=hown0 b hc
   exact hn ⟨i,x,h3,h4⟩
 refine ⟨⟨?_,fun i so x h1 h2=>?_,fun i j x y b h1 h2 hx hy=>?_,fun b hb=>?_,fun b hb=>?_,fun b hb=>Nat.lt_of_lt_of_le (hh.olt b hb) hst.size⟩,hstep,?_⟩
 ·simp [layB_len,apd_len,hh.len,hcl]
 ·rcases hcases i x h2 with ⟨hi,hu,h3⟩ | ⟨k,hk,rfl,h3⟩ | ⟨rfl,k,s,j,hk,rfl,hs,hj⟩
  ·rw [lay_out rfl hi hu] at h1
   exact (hh.rep i so x h1 h3).step hstep (fun b hb=>hst.cells b (hh.lt b ⟨i,x,h3,hb⟩) (hunl i x b hu h3 hb))
  ·have hk':k<hout.length:=by omega
   have h4:(hout.map (renO (place σ shB.length)))[k]?=some (renO (place σ shB.length) hout[k]):=by rw [List.getElem?_map,List.getElem?_eq_getElem hk']; rfl
   rw [lay_at rfl hd hlt h4] at h1
   cases h1
   refine (hhc.rep k _ x (List.getElem?_eq_getElem hk') h3).ren2 hC hEE (hTT.imp id fun h=>ownOs_get h.2 k _ (List.getElem?_eq_getElem hk')) (belowOs_get hbo k _ (List.getElem?_eq_getElem hk'))
  ·have hk':k<hout.length:=by omega
   have h4:(hout.map (renO (place σ shB.length)))[k]?=some (renO (place σ shB.length) hout[k]):=by rw [List.getElem?_map,List.getElem?_eq_getElem hk']; rfl
   rw [lay_dead rfl h4 hs hj] at h1
   cases h1
   exact rfl
 ·rcases hcases i x h1 with ⟨_,hu,h3⟩ | ⟨k,_,rfl,h3⟩ | ⟨rfl,_⟩
  ·rcases hcases j y h2 with ⟨_,hu',h4⟩ | ⟨k',_,rfl,h4⟩ | ⟨rfl,_⟩
   ·exact hh.disj i j x y b h3 h4 hx hy
   ·exact (hunc i x b hu h3 hx ⟨k',y,h4,hy⟩).elim
   ·exact hy.elim
  ·rcases hcases j y h2 with ⟨_,hu',h4⟩ | ⟨k',_,rfl,h4⟩ | ⟨rfl,_⟩
   ·exact (hunc j y b hu' h4 hy ⟨k,x,h3,hx⟩).elim
   ·rw [hhc.disj k k' x y b h3 h4 hx hy]
   ·exact hy.elim
  ·exact hx.elim
 ·rcases hown b hb with ⟨i,x,_,h1,h2⟩ | h1
  ·exact hh.out b ⟨i,x,h1,h2⟩
  ·exact fun h2=>hhc.out b h1 (hOO b h2)
 ·rcases hown b hb with ⟨i,x,_,h1,h2⟩ | h1
  ·exact Nat.lt_of_lt_of_le (hh.lt b ⟨i,x,h1,h2⟩) hst.size
  ·exact hhc.lt b h1
 ·exact hr.ren2 hC hEE (hTT.imp id fun h=>h.1) hbv
end
theorem letGo_len {sh sh':List (SO A)} {s s':SV A} (h:letGo sh s=some (s',sh')):sh'.length=sh.length:=by
 unfold letGo at h
 split at h
 ·split at h<;>first | (cases h; done) | (cases h; simp [setNth_eq])
 ·cases h; rfl
theorem letGoL_len:∀ {cs cs':SL A} {sh sh':List (SO A)},letGoL sh cs=some (cs',sh')→sh'.length=sh.length
 | .nil,_,_,_,h=>by simp [letGoL] at h; simp [h.2]
 | .cell s r,_,_,_,h=>by
  simp only [letGoL] at h
  split at h
  ·rename_i h1
   split at h
   ·rename_i h2
    cases h
    rw [letGoL_len h2,letGo_len h1]
   ·cases h
  ·cases h
 | .run k n xs r,_,_,_,h=>by
  simp only [letGoL] at h
  split at h
  ·rename_i h1; cases h; exact letGoL_len h1
  ·cases h
theorem letGoV_len {sh sh':List (SO A)} {s s':SV A} (h:letGoV sh s=some (s',sh')):sh'.length=sh.length:=by
 unfold letGoV at h
 split at h
 ·split at h
  ·rename_i h1; cases h; exact letGoL_len h1
  ·cases h
 ·exact letGo_len h
theorem endL_len:∀ {ws cs cs':SL A} {sh sh':List (SO A)},endL sh ws cs=some (cs',sh')→sh'.length=sh.length
 | .cell a r,.cell h s,_,sh,_,hk=>by
  simp only [endL] at hk
  split at hk
  ·rename_i h' sh1 h1
   split at hk
   ·rename_i s' sh2 h2
    cases hk
    rw [endL_len h2]
    split at h1
    ·cases h1; rfl
    ·exact letGo_len h1
   ·cases hk
  ·cases hk
 | .run _ _ _ r,.run k n xs s,_,sh,_,hk=>by
  simp only [endL] at hk
  split at hk
  ·rename_i s' sh2 h2
   cases hk
   exact endL_len h2
  ·cases hk
 | .nil,.nil,_,_,_,hk=>letGoL_len (by simpa only [endL] using hk)
 | .nil,.cell _ _,_,_,_,hk=>letGoL_len (by simpa only [endL] using hk)
 | .nil,.run _ _ _ _,_,_,_,hk=>letGoL_len (by simpa only [endL] using hk)
 | .cell _ _,.nil,_,_,_,hk=>letGoL_len (by simpa only [endL] using hk)
 | .cell _ _,.run _ _ _ _,_,_,_,hk=>letGoL_len (by simpa only [endL] using hk)
 | .run _ _ _ _,.nil,_,_,_,hk=>letGoL_len (by simpa only [endL] using hk)
 | .run _ _ _ _,.cell _ _,_,_,_,hk=>letGoL_len (by simpa only [endL] using hk)
theorem endS_len2:∀ {ws l l':List (SV A)} {s s':List (SO A)},endS s ws l=some (l',s')→s'.length=s.length
 | [],[],_,_,_,h=>by simp [endS] at h; simp [h.2]
 | x::ws,y::l,_,_,_,h=>by
  simp only [endS] at h
  split at h
  ·rename_i h1
   split at h
   ·rename_i h2
    cases h
    rw [endS_len2 h2]
    unfold end1 at h1
    split at h1
    ·cases h1; rfl
    ·cases h1; rfl
    ·split at h1
     ·split at h1
      ·split at h1
       ·rename_i h3; cases h1; exact endL_len h3
       ·cases h1
      ·cases h1
     ·exact letGoV_len h1
    ·exact letGoV_len h1
   ·cases h
  ·cases h
 | [],_::_,_,_,_,h=>by simp [endS] at h
 | _::_,[],_,_,_,h=>by simp [endS] at h
theorem endS_len {sh sh':List (SO A)}:∀ {ws l l':List (SV A)} {s s':List (SO A)},endS s ws l=some (l',s')→ws.length=l.length∧l'.length=l.length
 | [],[],_,_,_,h=>by simp [endS] at h; simp [h.1]
 | x::ws,y::l,_,_,_,h=>by
  simp only [endS] at h
  split at h
  ·split at h
   ·rename_i h2
    cases h
    have:=endS_len (sh:=sh) (sh':=sh') h2
    simp [this.1,this.2]
   ·cases h
  ·cases h
 | [],_::_,_,_,_,h=>by simp [endS] at h
 | _::_,[],_,_,_,h=>by simp [endS] at h
section
variable {O O2:Nat→Prop} {env env':List Wit} {w:World} {C:Enc A}
/-- Arguments, as a callee is handed them. -/
theorem args_arr {σ:List (SV A)} {sh:List (SO A)} (hC:∀ t y,belowL 0 (C.enc t y)=true) (hh:HR O env w C sh) (hc:Arr 0 σ env env') (hO:∀ b,¬O b→¬owned env b→¬O2 b∧¬owned env' b) {ts:List (SV A)} :
  ∀ {l:List (SV A)} {n:Nat} {us vs:List Value},ArgsR O env w C ts us→us.drop n=vs→l.length=vs.length→(∀ p∈slotsFrom n l,okV 0 σ p.2=true)→(∀ p∈slotsFrom n l,slotIs 0 σ ts sh p.1 p.2)→ArgsR O2 env' w C l vs
 | [],n,us,vs,_,_,hl,_,_=>List.eq_nil_of_length_eq_zero hl.symm
 | s::l,n,us,[],_,_,hl,_,_=>by simp at hl
 | s::l,n,us,v::vs,ha,hd,hl,hok,hsl=>by
  have h1:=hsl (n,s) List.mem_cons_self
  unfold slotIs at h1
  split at h1
  case h_2=>exact h1.elim
  rename_i s' hs'
  rw [nth_eq] at hs'
  obtain ⟨u,hu,hr⟩:=(argsR_get ha).2 n s' hs'
  have hv:us[n]?=some v:=by
   have h2:(us.drop n)[0]?=some v:=by rw [hd]; rfl
   simpa using h2
  rw [hu] at hv; cases hv
  refine ⟨v,vs,rfl,(eqv_rep h1 (rslV_rep hh hr)).arr2 hC hc hO _ (hok (n,s) List.mem_cons_self),args_arr hC hh hc hO ha (n:=n+1) ?_ (by simpa using hl) (fun p hp=>hok p (List.mem_cons_of_mem _ hp)) (fun p hp=>hsl p (List.mem_cons_of_mem _ hp))⟩
  rw [← List.drop_drop,hd]; rfl
end
section
variable {E:Eng A}
/-- A function does what its contract says, called from anywhere. -/
theorem meets_lent (hS : Sound E) (hG : ∀ g cs, E.GL g = some cs → belowL 0 cs = true) {f : FuncId} {fn : Func} {body : Code} (hf : E.P.funcs[f]? = some fn) (hname : (fn.name == "runtime.NumGoroutine") = false) (hb : fn.body = some body) {L : LS A} {ann : L.X → Anns A} {get : List (SV A) → List (SO A) → Option L.X}
  (hL:fnS E fn body L ann) (hle:∀ x,L.pre x→(L.hin x).length≤(L.hout x).length) (q:Bool) (hq:q=true→∀ x,L.hin x=[]):Meets E.P E.C E.GL q f (tLent L get):=by
 intro args sh K hk O env w vs ha hh hg
 have hC:=hS.below 0
 unfold tLent at hk
 split at hk
 case h_1=>exact hk.elim
 rename_i x hx
 split at hk
 case h_1=>exact hk.elim
 rename_i args' sh1 hend
 split at hk
 case h_1=>exact hk.elim
 rename_i σ hσ
 split at hk
 case isFalse=>exact hk.elim
 rename_i hokM
 split at hk
 case isFalse=>exact hk.elim
 rename_i hokS
 split at hk
 case isFalse=>exact hk.elim
 rename_i hdis
 obtain ⟨hsl,hmore,hpre,hk⟩:=hk
 obtain ⟨env1,hh1,hs1,ha1⟩:=endS_spec (E:=E) hh hend ha
 obtain ⟨hd1,hd2⟩:=distinct_get hdis
 obtain ⟨hml,hmget⟩:=moreIs_get hmore
 -- what is lent
 have hO2:∀ b,¬O b→¬owned env1 b→¬(O b∨(owned env1 b∧¬owned (arrEnv ([]:List (SO A)) σ env1) b)):=fun b h1 h2 h3=>h3.elim h1 (fun h=>h2 h.1)
 obtain ⟨hhc,harr⟩:=heap_arr2 (O2:=fun b=>O b∨(owned env1 b∧¬owned (arrEnv ([]:List (SO A)) σ env1) b)) (P:=[]) hC hh1 hdis hO2
  (fun b h1 h2=>h2.elim (hh1.out b (arrEnv_sub b h1)) (fun h=>h.2 h1)) (fun b h=>h.elim (hh1.olt b) (fun h=>hh1.lt b h.1)) rfl hokM trivial hmore
 rw [List.nil_append] at hhc
 have hO:∀ b,¬O b→¬owned env1 b→¬(O b∨(owned env1 b∧¬owned (arrEnv ([]:List (SO A)) σ env1) b))∧¬owned (arrEnv ([]:List (SO A)) σ env1) b:=fun b h1 h2=>⟨hO2 b h1 h2,fun h3=>h2 (arrEnv_sub b h3)⟩
 have hgc:Glob E.GL (fun b=>O b∨(owned env1 b∧¬owned (arrEnv ([]:List (SO A)) σ env1) b)) (arrEnv ([]:List (SO A)) σ env1) w E.C:=fun g cs h=>(hg.step hs1 g cs h).closed hC hO (by simp only [belowV]; exact hG g cs h)
 have hel:=endS_len (sh:=sh) (sh':=sh) hend
 have hargs:=args_arr (l:=L.args x) (n:=0) (vs:=vs) hC hh1 harr hO ha1 rfl (by rw [hel.1]; exact (argsR_get ha).1) (fun p hp=>okSlots_get hokS p hp) (fun p hp=>slotsAre_get hsl p hp)
 have hcall:=fn_local hS hf hname hb hL hle hpre hargs hhc hgc
 -- where it came from
 have hl0:(arrEnv ([]:List (SO A)) σ env1).length=σ.length:=by simp [arrEnv,cutEnv]
 have hget0:∀ (k:Nat),(arrEnv ([]:List (SO A)) σ env1)[k]?=(σ[k]?).map (srcWit env1):=fun k=>by simp [arrEnv,cutEnv]
 have h0':∀ (k:Nat) x b,(arrEnv ([]:List (SO A)) σ env1)[k]?=some x→x.owns b→∃ s j,σ[k]?=some s∧srcOf s=some j:=fun k x b hx ho=>by
  rw [hget0] at hx
  cases hs:σ[k]? with
  | none=>rw [hs] at hx; simp at hx
  | some s=>
   rcases hd1 k s hs with ⟨j,_,h2,_⟩ | h1
   ·exact ⟨s,j,rfl,h2⟩
   ·rw [hs,h1] at hx
    simp only [Option.map_some,srcWit,Option.some.injEq] at hx
    subst hx
    simp [Wit.owns,Value.ownBlock] at ho
 have h01:∀ (k:Nat) s j,σ[k]?=some s→srcOf s=some j→∃ x,env1[j]?=some x∧(arrEnv ([]:List (SO A)) σ env1)[k]?=some x∧x ≠ .dead∧∀ v,x ≠ .ro v:=fun k s j hs hj=>by
  have hk':k<(L.hin x).length:=by rw [hml]; exact (List.getElem?_eq_some_iff.1 hs).1
  have hlk:=List.getElem?_eq_getElem hk'
  have hmo:=hmget k _ s hlk hs
  have hwk:(arrEnv ([]:List (SO A)) σ env1)[k]?=some (srcWit env1 s):=by rw [hget0,hs]; rfl
  have horep:=hhc.rep k _ _ hlk hwk
  have hne:srcWit env1 s ≠ .dead∧∀ v,srcWit env1 s ≠ .ro v:=by
   generalize srcWit env1 s=y at horep
   generalize (L.hin x)[k]=a at horep hmo
   unfold more1 at hmo
   split at hmo
   all_goals first | exact hmo.elim | skip
   all_goals
    refine ⟨fun e=>?_,fun v e=>?_⟩<;>subst e<;>exact horep.elim
  have:srcWit env1 s=match env1[j]? with | some x=>x | none => .dead:=by
   unfold srcOf at hj
   split at hj
   ·cases hj; rfl
   ·cases hj; rfl
   ·cases hj
  cases hj1:env1[j]? with
  | none=>rw [hj1] at this; exact (hne.1 this).elim
  | some y=>
   rw [hj1] at this
   simp only at this
   rw [this] at hwk hne
   exact ⟨y,rfl,hwk,hne.1,hne.2⟩
 intro o a next Q hn
 refine hcall o a next Q (fun v w' ⟨envc,hr,hhr,hst,hbv,hbo⟩=>hn v w' ?_)
 have fin:∀ (shB:List (SO A)) (envB:List Wit),HR O envB w E.C shB→shB.length=sh.length→Step env w envB w →
   (∀ (k:Nat) s j,σ[k]?=some s→srcOf s=some j→∃ x,envB[j]?=some x∧(arrEnv ([]:List (SO A)) σ env1)[k]?=some x) →
   ((∀ b,¬(O b∨(owned env1 b∧¬owned (arrEnv ([]:List (SO A)) σ env1) b))→¬owned envc b→¬O b∧∀ (i:Nat) x,envB[i]?=some x→x.owns b→∃ (k:Nat) (s:SV A),σ[k]?=some s∧srcOf s=some i)∨(ownV (resV (L.res x))=true∧ownOs (L.hout x)=true)) →
   K (ren (place σ (cnt sh)) (resV (L.res x))) (joinL (layB shB σ (renOs (place σ (cnt sh)) (L.hout x))) (apd .dead σ (renOs (place σ (cnt sh)) (L.hout x)))) →
   Left O E.C q env w K v w':=by
  intro shB envB hhB hlB hsB h0 hT hkB
  obtain ⟨h1,h2,h3⟩:=put_back hC hhB hd2 h0 h0' hl0 (fun b h => .inl h) hhr hst hbv hbo hr hT
  rw [cnt_eq,joinL_eq,renOs_eq,← hlB] at hkB
  refine ⟨_,_,_,h3,h1,hsB.trans h2,fun h=>⟨hst.size,fun b hb=>hst.cells b hb (fun ⟨k,x,hx,_⟩=>?_)⟩,hkB⟩
  have h4:σ.length=0:=by rw [← hml,hq h]; rfl
  have h5:=(List.getElem?_eq_some_iff.1 hx).1
  omega
 have hlen1:sh1.length=sh.length:=by
  have h1:env.length≤env1.length:=hs1.elen
  have h2:=endS_len2 hend
  exact h2
 by_cases hown:ownV (resV (L.res x))=true∧ownOs (L.hout x)=true
 ·rw [if_pos hown.1,if_pos hown.2] at hk
  refine fin sh env hh rfl (Step.refl _ _) (fun k s j hs hj=>?_) (.inr hown) hk
  obtain ⟨y,h1,h2,h3,h4⟩:=h01 k s j hs hj
  have hj':j<env.length:=by
   have h5:=(List.getElem?_eq_some_iff.1 h1).1
   have h6:=hh1.len
   have h7:=hh.len
   omega
  obtain ⟨z,h5,h6⟩:=hs1.keep j _ (List.getElem?_eq_getElem hj')
  rw [h1] at h5; cases h5
  refine ⟨_,List.getElem?_eq_getElem hj',?_⟩
  rcases h6 with e | e | ⟨u,_,e⟩
  ·rw [h2,e]
  ·exact (h3 e).elim
  ·exact (h4 u e).elim
 ·have hk':K (ren (place σ (cnt sh)) (resV (L.res x))) (joinL (layB sh1 σ (renOs (place σ (cnt sh)) (L.hout x))) (apd .dead σ (renOs (place σ (cnt sh)) (L.hout x)))):=by
   by_cases h1:ownV (resV (L.res x))=true
   ·rw [if_pos h1,if_neg (fun h2=>hown ⟨h1,h2⟩)] at hk; exact hk
   ·rw [if_neg h1] at hk; exact hk
  refine fin sh1 env1 hh1 hlen1 hs1 (fun k s j hs hj=>by obtain ⟨y,h1,h2,_⟩:=h01 k s j hs hj; exact ⟨y,h1,h2⟩) (.inl fun b h1 h2=>⟨fun h3=>h1 (.inl h3),fun i y h3 h4=>?_⟩) hk'
  by_cases hc:owned (arrEnv ([]:List (SO A)) σ env1) b
  ·obtain ⟨k,z,hz,hzo⟩:=hc
   obtain ⟨s,j,hs,hj⟩:=h0' k z b hz hzo
   obtain ⟨z',h5,h6,_⟩:=h01 k s j hs hj
   rw [hz] at h6; cases h6
   have:=hh1.disj i j y z b h3 h5 h4 hzo
   subst this
   exact ⟨k,s,hs,hj⟩
  ·exact (h1 (.inr ⟨⟨i,y,h3,h4⟩,hc⟩)).elim
/-- A call that is walked where it stands. -/
def tInline (E:Eng A) (fn:Func) (body:Code) (ann:Anns A):SpecT A:=fun args sh K=>codeS E ann body (fun e ts sh' _=>match e with
 | .exit _=>False
 | _=>resS E ts sh' fn.results.toList fun l=>K (resV l) sh') (nameAll 0 args++padJ (fn.ntmps-cnt args)) sh (cnt args)
theorem meets_inline (hS : Sound E) {f : FuncId} {fn : Func} {body : Code} (hf : E.P.funcs[f]? = some fn) (hname : (fn.name == "runtime.NumGoroutine") = false) (hb : fn.body = some body) {ann : Anns A} : Meets E.P E.C E.GL false f (tInline E fn body ann) := by
 intro args sh K hk O env w vs ha hh hg
 refine callR_of_calls hf hname hb (calls_of_wp hf hb (wp_mono (codeS_sound hS (WF.start _ _) (rel_start ha hh hg) hk) (fun e a' w' he=>?_)))
 obtain ⟨ex,ts',sh',env',n',h1,h2,h3,h4,h5,h6⟩:=he
 have key:(resS E ts' sh' fn.results.toList fun l=>K (resV l) sh')→a'.defers=[]∧∃ v,(results fn a'.tmps).run E.P w' = .ok v w'∧Left O E.C false env w K v w':=by
  intro hk
  obtain ⟨ss,v,hK,hrun,vs,h7,rfl⟩:=run_results h2 hk
  exact ⟨h2.defers,_,hrun,_,sh',env',resV_rep h7,h2.heap,h3,fun h=>by simp at h,hK⟩
 cases ex with
 | exit i=>exact h6.elim
 | normal=>
  cases e<;>simp [exOf] at h1
  obtain ⟨h7,v,h8,h9⟩:=key h6
  exact ⟨h7,v,h8,h9⟩
 | ret=>
  cases e<;>simp [exOf] at h1
  obtain ⟨h7,v,h8,h9⟩:=key h6
  exact ⟨h7,v,h8,h9⟩
end
end Go.Eng

/-! The engine for this program: its data, its table of contracts. Conditions: none. -/
namespace Go.Proofs.YthkffadomgcdaaaGreatDoor
open Go Go.Eng Go.Proofs.Tryz
structure Br where
 keys:List Int
 lock:List Int
 after:Int
 older:Int
/-- An input of a transaction, and an output. -/
structure TIn where
 tx:List Int
 n:Int
 branch:Int
 secret:List Int
structure TOut where
 amount:Int
 cond:List Br
/-- An output of a transaction, by its number. -/
structure Pt where
 tx:List Int
 n:Int
/-- An output of a ledger, and since when. -/
structure EntD where
 amount:Int
 cond:List Br
 height:Int
/-- The kinds of data that vectors and maps have. -/
inductive DK where
 | hash
 | entry
 | int
 | point
 | br
 | str
 | ints
 | bytes
 | tin
 | outP
 | outR
 | other
def DT:DK→Type
 | .hash=>List Int
 | .entry=>EntD
 | .int=>Int
 | .point=>Pt
 | .br=>Br
 | .str=>ByteArray
 | .ints=>List Int
 | .bytes=>List Int
 | .tin=>TIn
 | .outP=>TOut
 | .outR=>TOut
 | .other=>Unit
def dkOf:List (Nat×DK)→Nat→DK
 | [],_ => .other
 | p::l,t=>cond (Nat.beq t p.1) p.2 (dkOf l t)
def dkList:List (Nat×DK):=[(3,.int),(71,.point),(28,.point),(88,.br),(66,.br),(9,.str),(33,.ints),(74,.bytes),(76,.tin),(82,.tin),(73,.outP),(87,.outR),(26,.hash),(99,.entry)]
def AA (t:Nat):Type:=DT (dkOf dkList t)
def encBr (b:Br):SL AA := .cell (.rints .i64 b.keys) (.run .u8 32 b.lock (.cell (.int .i64 b.after) (.cell (.int .i64 b.older) .nil)))
def asI:SV AA→Option Int
 | .int .i64 n=>some n
 | .lit .i64 n=>some n
 | _=>none
def asIs (k:IntKind):SV AA→Option (List Int)
 | .rints k' ks=>if k'=k then some ks else none
 | .val (.slice none 0 0)=>some []
 | _=>none
def decBr:SL AA→Option Br
 | .cell ks (.run .u8 n l (.cell x (.cell y .nil)))=>if n=32 then (match asIs .i64 ks,asI x,asI y with
  | some ks,some a,some o=>some ⟨ks,l,a,o⟩
  | _,_,_=>none) else none
 | _=>none
theorem asI_eqv {x:SV AA} {n:Int} (h:asI x=some n):eqv (.int .i64 n) x:=by
 unfold asI at h
 split at h
 ·cases h; simp [eqv]
 ·cases h; simp [eqv]
 ·cases h
theorem asIs_eqv {x:SV AA} {k:IntKind} {ks:List Int} (h:asIs k x=some ks):eqv (.rints k ks) x:=by
 unfold asIs at h
 split at h
 ·split at h
  ·rename_i e; subst e; cases h; simp [eqv]
  ·cases h
 ·cases h; simp [eqv]
 ·cases h
theorem decBr_eqv {cs:SL AA} {b:Br} (h:decBr cs=some b):eqvL (encBr b) cs:=by
 unfold decBr at h
 split at h
 ·split at h
  ·rename_i e
   subst e
   split at h
   ·rename_i h1 h2 h3
    cases h
    simp only [encBr,eqvL,if_true,true_and,and_true]
    exact ⟨asIs_eqv h1,asI_eqv h2,asI_eqv h3⟩
   ·cases h
  ·cases h
 ·cases h
def encPt (p:Pt):SL AA := .run .u8 32 p.tx (.cell (.int .i64 p.n) .nil)
def encK:(k:DK)→DT k→SL AA
 | .hash,xs => .run .u8 32 xs .nil
 | .entry,x => .cell (.int .i64 (EntD.amount x)) (.cell (.rseq 66 (show List (AA 66) from EntD.cond x)) (.cell (.int .i64 (EntD.height x)) .nil))
 | .int,n => .cell (.int .i64 n) .nil
 | .point,p=>encPt p
 | .br,b=>encBr b
 | .str,s => .cell (.val (.string s)) .nil
 | .ints,xs => .cell (.rints .i64 xs) .nil
 | .bytes,xs => .cell (.rints .u8 xs) .nil
 | .tin,x => .run .u8 32 (TIn.tx x) (.cell (.int .i64 (TIn.n x)) (.cell (.int .i64 (TIn.branch x)) (.cell (.rints .u8 (TIn.secret x)) .nil)))
 | .outP,x => .cell (.int .i64 (TOut.amount x)) (.cell (.rseq 66 (show List (AA 66) from TOut.cond x)) .nil)
 | .outR,x => .cell (.int .i64 (TOut.amount x)) (.cell (.rseq 88 (show List (AA 88) from TOut.cond x)) .nil)
 | .other,_ => .nil
def sizeK:DK→Nat
 | .hash=>32
 | .entry=>3
 | .int=>1
 | .point=>33
 | .br=>35
 | .str=>1
 | .ints=>1
 | .bytes=>1
 | .tin=>35
 | .outP=>2
 | .outR=>2
 | .other=>0
def aggK:DK→Bool
 | .hash=>true
 | .entry=>true
 | .br=>true
 | .tin=>true
 | .outP=>true
 | .outR=>true
 | .point=>true
 | _=>false
def asBrs (t:Nat) (h:AA t=Br):SV AA→Option (List Br)
 | .rseq u xs=>if e:u=t then some (h▸e▸xs) else none
 | .val (.slice none 0 0)=>some []
 | _=>none
def decK:(k:DK)→SL AA→Option (DT k)
 | .hash,.run .u8 _ xs .nil=>some xs
 | .entry,.cell n (.cell s (.cell h .nil))=>match asI n,asBrs 66 rfl s,asI h with
  | some n,some bs,some h=>some ⟨n,bs,h⟩
  | _,_,_=>none
 | .int,.cell x .nil=>asI x
 | .point,.run .u8 _ tx (.cell n .nil)=>match asI n with
  | some n=>some ⟨tx,n⟩
  | none=>none
 | .br,cs=>decBr cs
 | .str,.cell (.val (.string s)) .nil=>some s
 | .ints,.cell x .nil=>asIs .i64 x
 | .bytes,.cell x .nil=>asIs .u8 x
 | .tin,.run .u8 _ tx (.cell n (.cell b (.cell s .nil)))=>match asI n,asI b,asIs .u8 s with
  | some n,some b,some s=>some ⟨tx,n,b,s⟩
  | _,_,_=>none
 | .outP,.cell n (.cell s .nil)=>match asI n,asBrs 66 rfl s with
  | some n,some bs=>some ⟨n,bs⟩
  | _,_=>none
 | .outR,.cell n (.cell s .nil)=>match asI n,asBrs 88 rfl s with
  | some n,some bs=>some ⟨n,bs⟩
  | _,_=>none
 | _,_=>none
def encA (t:Nat) (y:AA t):SL AA:=encK (dkOf dkList t) y
def sizeA (t:Nat):Nat:=sizeK (dkOf dkList t)
def decA (t:Nat) (cs:SL AA):Option (AA t):=decK (dkOf dkList t) cs
theorem encK_stor (k:DK) (y:DT k):storable ([]:List (SO AA)) (encK k y)=true:=by cases k<;>rfl
theorem encK_len (k:DK) (y:DT k):(encK k y).len=sizeK k:=by cases k<;>rfl
theorem encK_below (n:Nat) (k:DK) (y:DT k):belowL n (encK k y)=true:=by cases k<;>rfl
def aggA (t:Nat):Bool:=aggK (dkOf dkList t)
def CC:Enc AA:=⟨encA,sizeA,aggA⟩
def ptShape (P:Program) (t:Nat):Bool:=match desc P t with
 | .struct fs=>match fs.toList with
  | [f, g] => if f.name = "_" then false else (if g.name = "_" then false else (if okT P f.type then (if okT P g.type then (if f.offset = 0 then (if g.offset = 32 then (if tsize P f.type = 32 then (match desc P f.type with
    | .array n e=>if n=32 then (match desc P e with
     | .int _=>if tsize P e=1 then (match desc P g.type with
      | .int _=>true
      | _=>false) else false
     | _=>false) else false
    | _=>false) else false) else false) else false) else false) else false))
  | _=>false
 | _=>false
theorem pt_key {P:Program} {t:Nat} (h:ptShape P t=true) (x y:Pt):∃ b,keqS P t (encPt x) (encPt y)=some b∧(b=true↔x=y):=by
 unfold ptShape at h
 split at h
 case h_2=>cases h
 rename_i fs hd
 split at h
 case h_2=>cases h
 rename_i f g hfs
 split at h
 ·cases h
 rename_i n1
 split at h
 ·cases h
 rename_i n2
 split at h
 case isFalse=>cases h
 rename_i o1
 split at h
 case isFalse=>cases h
 rename_i o2
 split at h
 case isFalse=>cases h
 rename_i f1
 split at h
 case isFalse=>cases h
 rename_i f2
 split at h
 case isFalse=>cases h
 rename_i s1
 split at h
 case h_2=>cases h
 rename_i n e d1
 split at h
 case isFalse=>cases h
 rename_i hn
 split at h
 case h_2=>cases h
 rename_i k0 d2
 split at h
 case isFalse=>cases h
 rename_i s2
 split at h
 case h_2=>cases h
 rename_i k1 d3
 subst hn
 have a1:aggT P f.type=true:=by simp [aggT,d1]
 have a2:aggT P g.type=false:=by simp [aggT,d3]
 have r1:∀ z:Pt,rdCells P f.type (encPt z) f.offset=some (.agg (.run .u8 32 z.tx .nil)):=fun z=>by
  unfold rdCells
  rw [if_pos a1,s1,f1]
  rfl
 have r2:∀ z:Pt,rdCells P g.type (encPt z) g.offset=some (.int .i64 z.n):=fun z=>by
  unfold rdCells
  rw [if_neg (by simp [a2]),f2]
  rfl
 have q1:eq1 P f.type (.agg (.run .u8 32 x.tx .nil):SV AA) (.agg (.run .u8 32 y.tx .nil))=some (x.tx==y.tx):=by
  unfold eq1
  rw [d1]
  simp only [d2,s2,if_true]
 have q2:eq1 P g.type (.int .i64 x.n:SV AA) (.int .i64 y.n)=some (x.n==y.n):=by
  unfold eq1
  rw [d3]
  simp [Eng.asInt]
 refine ⟨(x.tx==y.tx)&&((x.n==y.n)&&true),?_,?_⟩
 ·unfold keqS
  rw [hd]
  simp only [hfs,eqFs,n1,n2,o1,o2,r1,r2,q1,q2,if_true,if_false]
 ·simp only [Bool.and_true,Bool.and_eq_true,beq_iff_eq]
  constructor
  ·rintro ⟨h1,h2⟩
   cases x; cases y
   simp only at h1 h2
   rw [h1,h2]
  ·intro h
   rw [h]
   exact ⟨rfl,rfl⟩
def hashShape (P:Program) (t:Nat):Bool:=match desc P t with
 | .array n e=>if n=32 then (match desc P e with
  | .int _=>if tsize P e=1 then true else false
  | _=>false) else false
 | _=>false
theorem hash_key {P:Program} {t:Nat} (h:hashShape P t=true) (x y:List Int):∃ b,keqS P t (.run .u8 32 x .nil:SL AA) (.run .u8 32 y .nil)=some b∧(b=true↔x=y):=by
 unfold hashShape at h
 split at h
 case h_2=>cases h
 rename_i n e hd
 split at h
 case isFalse=>cases h
 rename_i hn
 split at h
 case h_2=>cases h
 rename_i k hk
 split at h
 case isFalse=>cases h
 rename_i h1
 subst hn
 refine ⟨x==y,?_,by simp⟩
 unfold keqS
 rw [hd]
 simp only [eq1,hd,hk,h1,if_true]
def keyA (P:Program) (t:Nat):Bool:=if t=71 then ptShape P t else (if t=26 then hashShape P t else false)
theorem keyA_pl {P:Program} {t:Nat} (h:keyA P t=true) (x:AA t):plainInts (CC.enc t x)=true:=by
 unfold keyA at h
 split at h
 ·rename_i e; subst e; rfl
 ·split at h
  ·rename_i e; subst e; rfl
  ·cases h
theorem keyA_ok {P:Program} {t:Nat} (h:keyA P t=true) (x y:AA t):∃ b,keqS P t (CC.enc t x) (CC.enc t y)=some b∧(b=true↔x=y):=by
 unfold keyA at h
 split at h
 ·rename_i e; subst e; exact pt_key h x y
 ·split at h
  ·rename_i e; subst e; exact hash_key h x y
  ·cases h
/-- The table of blake's order. -/
def orderL:List Int:=[0,1,2,3,4,5,6,7,8,9,10,11,12,13,14,15,14,10,4,8,9,15,13,6,1,12,0,2,11,7,5,3,11,8,12,0,5,2,15,13,10,14,3,6,7,1,9,4,7,9,3,1,13,12,11,14,2,6,5,10,4,0,15,8,9,0,5,7,2,4,10,15,14,1,11,12,6,8,3,13,2,12,6,10,0,11,8,3,4,13,7,5,15,14,1,9,12,5,1,15,14,13,4,10,0,7,6,3,9,2,8,11,13,11,7,14,12,1,3,9,5,0,15,4,8,6,2,10,6,15,14,9,11,3,0,8,12,2,13,7,1,4,10,5,10,2,8,4,7,6,1,5,15,11,9,14,3,12,13,0]
/-- What the package-level variables hold: errors.errorType; blake's order. -/
def GG (g:Nat):Option (SL AA):=cond (Nat.beq g 0) (some (.cell (.val (.iface 201 (.agg #[.pointer (some ⟨2,49,none⟩)]))) .nil)) (cond (Nat.beq g 1) (some (.run .u8 160 orderL .nil)) none)
theorem GG_below:∀ g cs,GG g=some cs→belowL 0 cs=true:=by
 intro g cs h
 unfold GG at h
 cases e:Nat.beq g 0 with
 | true=>rw [e] at h; cases h; rfl
 | false=>
  rw [e] at h
  cases e2:Nat.beq g 1 with
  | true=>rw [e2] at h; cases h; rfl
  | false=>rw [e2] at h; cases h
def ttOf:List (Nat×SpecT AA)→Nat→SpecT AA
 | [],_=>fun _ _ _=>False
 | p::l,g=>cond (Nat.beq g p.1) p.2 (ttOf l g)
/-- These types' values are held against each other. -/
def eqList:List Nat:=[26,71,28]
def eqA (P:Program) (t:Nat):Bool:=if inL t eqList then (if P.stoodInHeld t then false else (if P.eqGuardType P.depth t then false else true)) else false
theorem eqA_ok {P:Program} {t:Nat} (h:eqA P t=true):P.stoodInHeld t=false∧P.eqGuardType P.depth t=false:=by
 unfold eqA at h
 split at h
 ·split at h
  ·cases h
  ·rename_i h1
   split at h
   ·cases h
   ·rename_i h2
    exact ⟨by simpa using h1,by simpa using h2⟩
 ·cases h
/-- These write in the memory that they are lent. -/
def loud:List Nat:=[19,23,47,11,36,66,10,88,21,65,100,101,71,94,45,40,41,120,139,122,136,115,80,81,125,83,84,85,116,86]
def qfA (g:Nat):Bool:=if inL g loud then false else true
noncomputable def EX (u:Bool) (P:Program) (l:List (Nat×SpecT AA)):Eng AA where
 P:=P
 TT:=ttOf l
 GL:=GG
 C:=CC
 dec:=decA
 qf:=qfA
 nu:=u
 eqT:=eqA P
 eqOk:=fun _ h=>eqA_ok h
 encOk:=fun _ y=>encK_stor _ y
 encLen:=fun _ y=>encK_len _ y
 keyT:=keyA P
 keyPl:=fun _ h x=>keyA_pl h x
 keyOk:=fun _ h x y=>keyA_ok h x y
noncomputable def EE (P:Program) (l:List (Nat×SpecT AA)):Eng AA:=EX false P l
/-- With new variables late, and with loads early. -/
noncomputable def EF (P:Program) (l:List (Nat×SpecT AA)):Eng AA:=EX true P l
/-- These contracts are met. -/
structure Known (P:Program) (l:List (Nat×SpecT AA)):Prop where
 ok:∀ g,Meets P CC GG (qfA g) g (ttOf l g)
section
variable {P:Program}
theorem Known.nil:Known P []:=⟨fun _ _ _ _ h=>h.elim⟩
theorem _root_.Go.Eng.Meets.any {C:Enc AA} {GL:Nat→Option (SL AA)} {n:Nat} {T:SpecT AA} (h:Meets P C GL true n T) (q:Bool):Meets P C GL q n T:=by
 intro args sh K hk O env w vs ha hh hg o a next Q hn
 refine h args sh K hk O env w vs ha hh hg o a next Q (fun v w' ⟨s,sh',env',h1,h2,h3,h4,h5⟩=>hn v w' ⟨s,sh',env',h1,h2,h3,fun _=>h4 rfl,h5⟩)
theorem Known.add {l:List (Nat×SpecT AA)} {n:Nat} {T:SpecT AA} (h:Meets P CC GG (qfA n) n T) (k:Known P l):Known P ((n,T)::l):=⟨fun g=>by
 show Meets P CC GG (qfA g) g (cond (Nat.beq g n) T (ttOf l g))
 cases e:Nat.beq g n with
 | true=>have:=Nat.eq_of_beq_eq_true e; subst this; exact h
 | false=>exact k.ok g⟩
theorem Known.pick {P:Program} {l:List (Nat×SpecT AA)} (k:Known P l) (n:Nat) {T:SpecT AA} (h:ttOf l n=T):Meets P CC GG (qfA n) n T:=by
 subst h
 exact k.ok n
theorem Known.over {P:Program} {l l':List (Nat×SpecT AA)} (k:Known P l) (n:Nat) (T:SpecT AA) (h:ttOf l n=T) (k':Known P l'):Known P ((n,T)::l') := .add (k.pick n h) k'
theorem Known.cons {l:List (Nat×SpecT AA)} {n:Nat} {T:SpecT AA} (h:Meets P CC GG true n T) (k:Known P l):Known P ((n,T)::l) := .add (h.any _) k
theorem sound {u:Bool} {l:List (Nat×SpecT AA)} (hm:P.follows .mixedOrders=true) (k:Known P l):Sound (EX u P l) where
 tt:=k.ok
 below:=fun n _ y=>encK_below n _ y
 mixed:=hm
/-- A function is as its contract says. -/
structure Fits (E:Eng AA) (fn:Func) (body:Code) (L:LS AA) (ann:L.X→Anns AA):Prop where
 fits:fnS E fn body L ann
/-- One more contract. -/
theorem Known.more {l : List (Nat × SpecT AA)} (k : Known P l) (hm : P.follows .mixedOrders = true) {f : FuncId} {fn : Func} {body : Code} (hf : P.funcs[f]? = some fn) (hname : (fn.name == "runtime.NumGoroutine") = false) (hb : fn.body = some body) {L : LS AA} {ann : L.X → Anns AA} {get : List (SV AA) → Option L.X}
  {E:Eng AA} {u:Bool} (hE:E=EX u P l) (hL:Fits E fn body L ann) (hp:Pure L get):Known P ((f,tOf L get)::l):=by
 subst hE
 exact .cons (meets_pure (E:=EX u P l) (sound hm k) GG_below hf hname hb hL.fits hp true) k
theorem Known.more2 {l : List (Nat × SpecT AA)} (k : Known P l) (hm : P.follows .mixedOrders = true) {f : FuncId} {fn : Func} {body : Code} (hf : P.funcs[f]? = some fn) (hname : (fn.name == "runtime.NumGoroutine") = false) (hb : fn.body = some body) {L : LS2 AA} {ann ann' : L.X → Anns AA} {get : List (SV AA) → Option L.X}
  {E:Eng AA} {u:Bool} (hE:E=EX u P l) (h1:Fits E fn body (L.one true) ann) (h2:Fits E fn body (L.one false) ann') (got:∀ args x,get args=some x→eqva (L.args x) args) (closed:∀ x,belowVs 0 (L.args x)=true):Known P ((f,tIf L get)::l):=by
 subst hE
 exact .cons (meets_if (meets_pure (E:=EX u P l) (sound hm k) GG_below hf hname hb h1.fits ⟨fun _=>rfl,got,closed⟩ true) (meets_pure (E:=EX u P l) (sound hm k) GG_below hf hname hb h2.fits ⟨fun _=>rfl,got,closed⟩ true)) k
end
/-- A function's body, by its number. -/
structure Has (P:Program) (f:FuncId) (fn:Func) (body:Code):Prop where
 is:P.funcs[f]?=some fn
 name : (fn.name == "runtime.NumGoroutine") = false
 body:fn.body=some body
/-- One more contract, with memory that is lent. -/
theorem Known.lent {P:Program} {l:List (Nat×SpecT AA)} (k:Known P l) (hm:P.follows .mixedOrders=true) {f:FuncId} {fn:Func} {body:Code} (hf:Has P f fn body) {L:LS AA} {ann:L.X→Anns AA} {get:List (SV AA)→List (SO AA)→Option L.X}
  {E:Eng AA} {u:Bool} (hE:E=EX u P l) (hL:Fits E fn body L ann) (hle:∀ x,L.pre x→(L.hin x).length≤(L.hout x).length) (hq:qfA f=true→∀ x,L.hin x=[]):Known P ((f,tLent L get)::l):=by
 subst hE
 exact .add (meets_lent (E:=EX u P l) (sound hm k) GG_below hf.is hf.name hf.body hL.fits hle (qfA f) hq) k
/-- A function that is walked where it is called. -/
theorem Known.inl {P:Program} {l:List (Nat×SpecT AA)} (k:Known P l) (hm:P.follows .mixedOrders=true) {f:FuncId} {fn:Func} {body:Code} (hf:Has P f fn body) {ann:Anns AA}
  {E:Eng AA} {u:Bool} (hE:E=EX u P l) (hq:qfA f=false):Known P ((f,tInline E fn body ann)::l):=by
 subst hE
 refine .add ?_ k
 rw [hq]
 exact meets_inline (E:=EX u P l) (sound hm k) hf.is hf.name hf.body
theorem mixed:prog.follows .mixedOrders=true:=by kernel_rfl
noncomputable def E0:Eng AA:=EE prog []
def bodyOf (f:Func):Code:=match f.body with
 | some c=>c
 | none => .skip
end Go.Proofs.YthkffadomgcdaaaGreatDoor

/-! Contracts of small functions. Conditions: none. -/
namespace Go.Proofs.YthkffadomgcdaaaGreatDoor
open Go Go.Eng Go.Proofs.Tryz
/-- The keys up to a place go up, and name parties. -/
def Up (ks:List Int) (n:Nat):Prop:=∀ i:Nat,i<n→0≤ks.getD i 0∧ks.getD i 0<16∧(i=0∨ks.getD (i-1) 0<ks.getD i 0)
/-- A branch that may be. -/
def May (b:Br):Prop:=Up b.keys b.keys.length∧1≤b.keys.length∧0≤b.after∧b.after≤1099511627776∧0≤b.older∧b.older≤65536
open Classical in
noncomputable def mayB (b:Br):Bool:=decide (May b)
noncomputable def mayLS:LS AA where
 X:=Br
 pre:=fun _=>True
 args:=fun b=>[.agg (encBr b)]
 hin:=fun _=>[]
 res:=fun b=>[.sb 0 (mayB b)]
 hout:=fun _=>[]
def mayGet:List (SV AA)→Option Br
 | [.agg cs]=>decBr cs
 | _=>none
def mayAnn (b:Br):Anns AA:=fun _ _ _=>some { X:=Nat,inv:=fun k=>k≤b.keys.length∧b.keys.length≤9223372036854775807∧Up b.keys k,meas:=fun k=>b.keys.length-k,slots:=fun k=>[(8,.int .i64 k)],heap:=fun _=>[] }
end Go.Proofs.YthkffadomgcdaaaGreatDoor

/-! Contracts of small functions: they hold. Conditions: none. -/
namespace Go.Proofs.YthkffadomgcdaaaGreatDoor
open Go Go.Eng Go.Proofs.Tryz
theorem up_zero (ks:List Int):Up ks 0:=fun i h=>absurd h (Nat.not_lt_zero i)
theorem up_succ {ks:List Int} {n:Nat} (h:Up ks n) (h1:0≤ks.getD n 0) (h2:ks.getD n 0<16) (h3:n=0∨ks.getD (n-1) 0<ks.getD n 0):Up ks (n+1):=fun i hi=>by
 rcases Nat.lt_or_ge i n with h4 | h4
 ·exact h i h4
 ·have:i=n:=by omega
  subst this
  exact ⟨h1,h2,h3⟩
theorem mayB_false {b:Br} (h:¬May b):mayB b=false:=by simp [mayB,h]
theorem mayB_true {b:Br} (h:May b):mayB b=true:=by simp [mayB,h]
def mayVC:Prop:=∀ (x:Br),
 True →
  (x.keys.length:Int)≤(9223372036854775807:Int) →
   (∃ x_1,
     (x_1≤x.keys.length∧x.keys.length≤(9223372036854775807:Nat)∧Up x.keys x_1) ∧
      (x_1:Int)=(0:Int) ∧
       ((x.keys=x.keys∧x.lock=x.lock∧x.after=x.after∧x.older=x.older∧True)∧True)∧True) ∧
    ∀ (x_1:Nat),
     x_1≤x.keys.length∧x.keys.length≤(9223372036854775807:Nat)∧Up x.keys x_1 →
      (decide ((x_1:Int)<(x.keys.length:Int))=true →
        (0:Int)≤(x_1:Int) ∧
         (x_1:Int)<(x.keys.length:Int) ∧
          (x_1:Int).toNat<x.keys.length ∧
           (decide (x.keys.getD (x_1:Int).toNat (0:Int)<(0:Int))=true →
             mayB x=false∧True∧True) ∧
            (decide (x.keys.getD (x_1:Int).toNat (0:Int)<(0:Int))=false →
             (decide (x.keys.getD (x_1:Int).toNat (0:Int)≥(16:Int))=true →
               mayB x=false∧True∧True) ∧
              (decide (x.keys.getD (x_1:Int).toNat (0:Int)≥(16:Int))=false →
               (decide ((x_1:Int)>(0:Int))=true →
                 inI64 ((x_1:Int)-(1:Int)) ∧
                  (0:Int)≤(x_1:Int)-(1:Int) ∧
                   (x_1:Int)-(1:Int)<(x.keys.length:Int) ∧
                    ((x_1:Int)-(1:Int)).toNat<x.keys.length ∧
                     (decide (x.keys.getD ((x_1:Int)-(1:Int)).toNat (0:Int)≥x.keys.getD (x_1:Int).toNat (0:Int))=true →
                       mayB x=false∧True∧True) ∧
                      (decide (x.keys.getD ((x_1:Int)-(1:Int)).toNat (0:Int)≥x.keys.getD (x_1:Int).toNat (0:Int)) =
                        false →
                       inI64 ((x_1:Int)+(1:Int)) ∧
                        ∃ y,
                         (y≤x.keys.length ∧
                           x.keys.length≤(9223372036854775807:Nat)∧Up x.keys y) ∧
                          x.keys.length-y<x.keys.length-x_1 ∧
                           (y:Int)=(x_1:Int)+(1:Int) ∧
                            ((x.keys=x.keys∧x.lock=x.lock∧x.after=x.after∧x.older=x.older∧True) ∧
                              True) ∧
                             True)) ∧
                (decide ((x_1:Int)>(0:Int))=false →
                 inI64 ((x_1:Int)+(1:Int)) ∧
                  ∃ y,
                   (y≤x.keys.length∧x.keys.length≤(9223372036854775807:Nat)∧Up x.keys y) ∧
                    x.keys.length-y<x.keys.length-x_1 ∧
                     (y:Int)=(x_1:Int)+(1:Int) ∧
                      ((x.keys=x.keys∧x.lock=x.lock∧x.after=x.after∧x.older=x.older∧True) ∧
                        True) ∧
                       True)))) ∧
       (decide ((x_1:Int)<(x.keys.length:Int))=false →
        (x.keys.length:Int)≤(9223372036854775807:Int) →
         (decide ((x.keys.length:Int)≥(1:Int))=true →
           (decide (x.after≥(0:Int))=true →
             (decide (x.after≤(1099511627776:Int))=true →
               (decide (x.older≥(0:Int))=true →
                 mayB x=decide (x.older≤(65536:Int))∧True∧True) ∧
                (decide (x.older≥(0:Int))=false→mayB x=false∧True∧True)) ∧
              (decide (x.after≤(1099511627776:Int))=false→mayB x=false∧True∧True)) ∧
            (decide (x.after≥(0:Int))=false→mayB x=false∧True∧True)) ∧
          (decide ((x.keys.length:Int)≥(1:Int))=false→mayB x=false∧True∧True))
theorem may_eq:mayVC=fnS E0 f129 (bodyOf f129) mayLS mayAnn:=by kernel_rfl
theorem may_vc:mayVC:=by
 unfold mayVC
 intro x _
 simp only [decide_eq_true_eq,decide_eq_false_iff_not,and_true,Int.not_lt,ge_iff_le,gt_iff_lt,Int.not_le]
 intro hlen
 refine ⟨⟨0,⟨Nat.zero_le _,by omega,up_zero _⟩,rfl⟩,?_⟩
 rintro k ⟨hk,hl,hup⟩
 refine ⟨fun h1=>⟨by omega,by omega,by omega,fun h2=>?_,fun h2=>⟨fun h3=>?_,fun h3=>⟨fun h4=>⟨by unfold inI64; omega,by omega,by omega,by omega,fun h5=>?_,fun h5=>⟨by unfold inI64; omega,k+1,⟨by omega,by omega,up_succ hup h2 h3 (.inr ?_)⟩,by omega,by omega⟩⟩,
  fun h4=>⟨by unfold inI64; omega,k+1,⟨by omega,by omega,up_succ hup h2 h3 (.inl (by omega))⟩,by omega,by omega⟩⟩⟩⟩,
  fun h1 _=>?_⟩
 ·exact mayB_false fun hm=>by have:=(hm.1 k (by omega)).1; simp only [Int.toNat_natCast] at h2; omega
 ·exact mayB_false fun hm=>by have:=(hm.1 k (by omega)).2.1; simp only [Int.toNat_natCast] at h3; omega
 ·exact mayB_false fun hm=>by
   have:=(hm.1 k (by omega)).2.2
   have e:((k:Int)-1).toNat=k-1:=by omega
   rw [e] at h5
   simp only [Int.toNat_natCast] at h5
   omega
 ·have e:((k:Int)-1).toNat=k-1:=by omega
  rw [e] at h5
  simpa using h5
 ·have hup':Up x.keys x.keys.length:=by
   have:k=x.keys.length:=by omega
   rw [← this]; exact hup
  refine ⟨fun h2=>⟨fun h3=>⟨fun h4=>⟨fun h5=>?_,fun h5=>mayB_false fun hm=>?_⟩,fun h4=>mayB_false fun hm=>?_⟩,fun h3=>mayB_false fun hm=>?_⟩,fun h2=>mayB_false fun hm=>?_⟩
  ·unfold mayB
   congr 1
   exact propext ⟨fun hm=>hm.2.2.2.2.2,fun h6=>⟨hup',by omega,h3,h4,h5,h6⟩⟩
  ·have:=hm.2.2.2.2.1; omega
  ·have:=hm.2.2.2.1; omega
  ·have:=hm.2.2.1; omega
  ·have:=hm.2.1; omega
theorem may_ok:Fits E0 f129 (bodyOf f129) mayLS mayAnn:=by
 constructor
 rw [← may_eq]
 exact may_vc
end Go.Proofs.YthkffadomgcdaaaGreatDoor

/-! Contracts of small functions, in a row: first. Conditions: none. -/
namespace Go.Proofs.YthkffadomgcdaaaGreatDoor
open Go Go.Eng Go.Proofs.Tryz
theorem mayPure:Pure mayLS mayGet where
 hin:=fun _=>rfl
 got:=fun args x h=>by
  unfold mayGet at h
  split at h
  ·exact ⟨by simp only [eqv]; exact decBr_eqv h,trivial⟩
  ·cases h
 closed:=fun _=>rfl
theorem E0_eq:E0=EE prog []:=by
 unfold E0
 rfl
def L1:List (Nat×SpecT AA):=[(129,tOf mayLS mayGet)]
theorem f44_is:prog.funcs[129]?=some f129:=by kernel_rfl
theorem f44_body:f129.body=some (bodyOf f129):=by kernel_rfl
theorem f44_name : (f129.name == "runtime.NumGoroutine") = false := by kernel_rfl
theorem known1:Known prog L1:=by
 unfold L1
 exact Known.more Known.nil mixed f44_is f44_name f44_body E0_eq may_ok mayPure
noncomputable def E1:Eng AA:=EE prog L1
noncomputable def oddLS:LS AA where
 X:=Br
 pre:=fun _=>True
 args:=fun b=>[.agg (encBr b)]
 hin:=fun _=>[]
 res:=fun b=>[.sb 0 (!mayB b)]
 hout:=fun _=>[]
def noAnn {X:Type}:X→Anns AA:=fun _ _ _ _=>none
end Go.Proofs.YthkffadomgcdaaaGreatDoor

/-! Contracts around a condition's check: what they say. Conditions: none. -/
namespace Go.Proofs.YthkffadomgcdaaaGreatDoor
open Go Go.Eng Go.Proofs.Tryz
def asSeq (t:Nat):SV AA→Option (List (AA t))
 | .rseq _ xs=>castL t xs
 | .val (.slice none 0 0)=>some []
 | _=>none
theorem asSeq_eqv {t:Nat} {s:SV AA} {xs:List (AA t)} (h:asSeq t s=some xs):eqv (.rseq t xs) s:=by
 unfold asSeq at h
 split at h
 ·unfold castL at h
  split at h
  ·rename_i e; subst e; cases h; simp [eqv]
  ·cases h
 ·cases h; simp [eqv]
 ·cases h
def L2:List (Nat×SpecT AA):=(128,tOf oddLS mayGet)::L1
noncomputable def E2:Eng AA:=EE prog L2
noncomputable def firstOdd:List Br→Nat→Int
 | [],_ => -1
 | b::l,n=>if mayB b=true then firstOdd l (n+1) else n
noncomputable def indexLS:LS AA where
 X:=List Br
 pre:=fun _=>True
 args:=fun bs=>[.rseq 66 bs,.fn (.func 128) .nil .nil]
 hin:=fun _=>[]
 res:=fun bs=>[.int .i64 (firstOdd bs 0)]
 hout:=fun _=>[]
def indexGet:List (SV AA)→Option (List (AA 66))
 | [s,.fn (.func g) .nil .nil]=>if g=128 then asSeq 66 s else none
 | _=>none
def indexAnn (bs:List Br):Anns AA:=fun _ _ _=>some {
 X:=Nat
 inv:=fun k=>k≤bs.length∧bs.length≤9223372036854775807∧firstOdd bs 0=firstOdd (bs.drop k) k
 meas:=fun k=>bs.length-k
 slots:=fun k=>[(8,.int .i64 k)]
 heap:=fun _=>[] }
def L3:List (Nat×SpecT AA):=(100,tOf indexLS indexGet)::L2
noncomputable def E3:Eng AA:=EE prog L3
noncomputable def anyLS:LS AA where
 X:=List Br
 pre:=fun _=>True
 args:=fun bs=>[.rseq 66 bs,.fn (.func 128) .nil .nil]
 hin:=fun _=>[]
 res:=fun bs=>[.sb 0 (decide (firstOdd bs 0≥0))]
 hout:=fun _=>[]
def L4:List (Nat×SpecT AA):=(65,tOf anyLS indexGet)::L3
noncomputable def E4:Eng AA:=EE prog L4
/-- A condition that may be. -/
def Fine (bs:List Br):Prop:=1≤bs.length∧bs.length≤8∧firstOdd bs 0<0
open Classical in
noncomputable def fineB (bs:List Br):Bool:=decide (Fine bs)
noncomputable def checkLS:LS2 AA where
 X:=List Br
 c:=fineB
 args:=fun bs=>[.agg (.cell (.rseq 66 bs) .nil)]
 yes:=fun _=>[.val .nilIface]
 no:=fun _=>[.iface 111 (.int .i64 1)]
def condGet (t:Nat):List (SV AA)→Option (List (AA t))
 | [.agg (.cell s .nil)]=>asSeq t s
 | _=>none
def L5:List (Nat×SpecT AA):=(102,tIf checkLS (condGet 66))::L4
def sumK:List Br→Nat
 | []=>0
 | b::l=>b.keys.length+sumK l
def weight (bs:List Br):Nat:=bs.length+sumK bs
def L6:List (Nat×SpecT AA):=L5
def L7:List (Nat×SpecT AA):=L6
noncomputable def E7:Eng AA:=EE prog L7
noncomputable def refCheckLS:LS AA where
 X:=List Br
 pre:=fun bs=>bs.length≤9223372036854775807
 args:=fun bs=>[.agg (.cell (.rseq 88 bs) .nil)]
 hin:=fun _=>[]
 res:=fun bs=>[.int .i64 (cond (fineB bs) 0 1)]
 hout:=fun _=>[]
def lastK (ks:List Int):Nat→Int
 | 0 => -1
 | k+1=>ks.getD k 0
def refCheckAnn (bs:List Br):Anns AA:=fun r _ sh=>cond (Nat.beq r 5)
 (some {
  X:=Nat
  inv:=fun k=>k≤bs.length∧firstOdd bs 0=firstOdd (bs.drop k) k
  meas:=fun k=>bs.length-k
  slots:=fun k=>[(3,.int .i64 k)]
  heap:=fun _=>[] })
 (match nth sh 1 with
 | some (.cells _ (.cell (.rints _ ks) _))=>some {
  X:=Nat
  inv:=fun k=>k≤ks.length∧Up ks k
  meas:=fun k=>ks.length-k
  slots:=fun k=>[(5,.int .i64 (lastK ks k)),(6,.int .i64 k)]
  heap:=fun _=>[] }
 | _=>none)
def L8:List (Nat×SpecT AA):=(33,tOf refCheckLS (condGet 88))::L7
end Go.Proofs.YthkffadomgcdaaaGreatDoor

/-! Contracts around a condition's check: they hold. Conditions: none. -/
namespace Go.Proofs.YthkffadomgcdaaaGreatDoor
open Go Go.Eng Go.Proofs.Tryz
def oddVC:Prop:=∀ (x:Br),
 True→True∧(!mayB x)=!mayB { keys:=x.keys,lock:=x.lock,after:=x.after,older:=x.older }∧True∧True
theorem odd_eq:oddVC=fnS E1 f128 (bodyOf f128) oddLS noAnn:=by kernel_rfl
theorem odd_ok:Fits E1 f128 (bodyOf f128) oddLS noAnn:=by
 constructor
 rw [← odd_eq]
 exact fun x _=>⟨trivial,rfl,trivial,trivial⟩
theorem oddPure:Pure oddLS mayGet where
 hin:=fun _=>rfl
 got:=mayPure.got
 closed:=fun _=>rfl
def indexVC:Prop:=∀ (x:List Br),
 True →
  (x.length:Int)≤(9223372036854775807:Int) →
   (∃ x_1,
     (x_1≤x.length ∧
       x.length≤(9223372036854775807:Nat)∧firstOdd x (0:Nat)=firstOdd (List.drop x_1 x) x_1) ∧
      (x_1:Int)=(0:Int)∧True∧True) ∧
    ∀ (x_1:Nat),
     x_1≤x.length ∧
       x.length≤(9223372036854775807:Nat)∧firstOdd x (0:Nat)=firstOdd (List.drop x_1 x) x_1 →
      (decide ((x_1:Int)<(x.length:Int))=true →
        (0:Int)≤(x_1:Int) ∧
         (x_1:Int)<(x.length:Int) ∧
          ∀ (y:AA (66:Nat)),
           x[(x_1:Int).toNat]?=some y →
            True ∧
             ((!mayB { keys:=y.keys,lock:=y.lock,after:=y.after,older:=y.older })=true →
               firstOdd x (0:Nat)=(x_1:Int)∧True∧True) ∧
              ((!mayB { keys:=y.keys,lock:=y.lock,after:=y.after,older:=y.older })=false →
               inI64 ((x_1:Int)+(1:Int)) ∧
                ∃ y,
                 (y≤x.length ∧
                   x.length≤(9223372036854775807:Nat) ∧
                    firstOdd x (0:Nat)=firstOdd (List.drop y x) y) ∧
                  x.length-y<x.length-x_1 ∧
                   (y:Int)=(x_1:Int)+(1:Int)∧True∧True)) ∧
       (decide ((x_1:Int)<(x.length:Int))=false→firstOdd x (0:Nat)=(-1:Int)∧True∧True)
theorem index_eq:indexVC=fnS E2 f100 (bodyOf f100) indexLS indexAnn:=by kernel_rfl
theorem index_vc:indexVC:=by
 unfold indexVC
 intro bs _ hl
 refine ⟨⟨0,⟨Nat.zero_le _,by omega,rfl⟩,rfl,trivial,trivial⟩,?_⟩
 rintro k ⟨hk,hl2,hf⟩
 refine ⟨fun h1=>?_,fun h1=>?_⟩
 ·simp only [decide_eq_true_eq] at h1
  refine ⟨by omega,by omega,fun y hy=>⟨trivial,fun h2=>⟨?_,trivial,trivial⟩,fun h2=>⟨by unfold inI64; omega,k+1,⟨by omega,by omega,?_⟩,by omega,by omega,trivial,trivial⟩⟩⟩
  all_goals
   have hd:bs.drop k=y::bs.drop (k+1):=by
    have h3:k<bs.length:=by omega
    rw [List.drop_eq_getElem_cons h3]
    simp only [Int.toNat_natCast] at hy
    rw [List.getElem?_eq_getElem h3] at hy
    cases hy; rfl
  ·rw [hf,hd]
   have h4:mayB y=false:=by simpa using h2
   simp [firstOdd,h4]
  ·rw [hf,hd]
   have h4:mayB y=true:=by simpa using h2
   simp [firstOdd,h4]
   rfl
 ·simp only [decide_eq_false_iff_not] at h1
  refine ⟨?_,trivial,trivial⟩
  rw [hf,List.drop_of_length_le (by omega)]
  rfl
theorem index_ok:Fits E2 f100 (bodyOf f100) indexLS indexAnn:=by
 constructor
 rw [← index_eq]
 exact index_vc
def anyVC:Prop:=∀ (x:List Br),
 True→True∧decide (firstOdd x (0:Nat)≥(0:Int))=decide (firstOdd x (0:Nat)≥(0:Int))∧True∧True
theorem any_eq:anyVC=fnS E3 f65 (bodyOf f65) anyLS noAnn:=by kernel_rfl
theorem any_ok:Fits E3 f65 (bodyOf f65) anyLS noAnn:=by
 constructor
 rw [← any_eq]
 exact fun x _=>⟨trivial,rfl,trivial,trivial⟩
theorem fineB_iff {bs:List Br}:fineB bs=true↔Fine bs:=by simp [fineB]
theorem fineB_not {bs:List Br}:fineB bs=false↔¬Fine bs:=by simp [fineB]
def check1VC:Prop:=∀ (x:List Br),
 fineB x=true →
  (x.length:Int)≤(9223372036854775807:Int) →
   (decide ((x.length:Int)<(1:Int))=true→(SV.val Value.nilIface:SV AA)=SV.iface (111:TypeId) (SV.lit IntKind.i64 (1:Int))∧True∧True) ∧
    (decide ((x.length:Int)<(1:Int))=false →
     (x.length:Int)≤(9223372036854775807:Int) →
      (decide ((x.length:Int)>(8:Int))=true→(SV.val Value.nilIface:SV AA)=SV.iface (111:TypeId) (SV.lit IntKind.i64 (1:Int))∧True∧True) ∧
       (decide ((x.length:Int)>(8:Int))=false →
        True ∧
         (decide (firstOdd x (0:Nat)≥(0:Int))=true→(SV.val Value.nilIface:SV AA)=SV.iface (111:TypeId) (SV.lit IntKind.i64 (1:Int))∧True∧True) ∧
          (decide (firstOdd x (0:Nat)≥(0:Int))=false →
           (SV.val Value.nilIface:SV AA)=SV.val Value.nilIface∧True∧True)))
theorem check1_eq:check1VC=fnS E4 f102 (bodyOf f102) (checkLS.one true) noAnn:=by kernel_rfl
theorem check1_vc:check1VC:=by
 intro bs hc hl
 obtain ⟨h1,h2,h3⟩:=fineB_iff.1 hc
 refine ⟨fun h4=>?_,fun h4 _=>⟨fun h5=>?_,fun h5=>⟨trivial,fun h6=>?_,fun h6=>⟨rfl,trivial,trivial⟩⟩⟩⟩
 ·simp only [decide_eq_true_eq] at h4; omega
 ·simp only [decide_eq_true_eq] at h5; omega
 ·simp only [decide_eq_true_eq] at h6; omega
theorem check1_ok:Fits E4 f102 (bodyOf f102) (checkLS.one true) noAnn:=by
 constructor
 rw [← check1_eq]
 exact check1_vc
def check0VC:Prop:=∀ (x:List Br),
 fineB x=false →
  (x.length:Int)≤(9223372036854775807:Int) →
   (decide ((x.length:Int)<(1:Int))=true→(1:Int)=(1:Int)∧True∧True) ∧
    (decide ((x.length:Int)<(1:Int))=false →
     (x.length:Int)≤(9223372036854775807:Int) →
      (decide ((x.length:Int)>(8:Int))=true→(1:Int)=(1:Int)∧True∧True) ∧
       (decide ((x.length:Int)>(8:Int))=false →
        True ∧
         (decide (firstOdd x (0:Nat)≥(0:Int))=true→(1:Int)=(1:Int)∧True∧True) ∧
          (decide (firstOdd x (0:Nat)≥(0:Int))=false →
           (SV.iface (111:TypeId) (SV.int IntKind.i64 (1:Int)):SV AA)=SV.val Value.nilIface∧True∧True)))
theorem check0_eq:check0VC=fnS E4 f102 (bodyOf f102) (checkLS.one false) noAnn:=by kernel_rfl
theorem check0_vc:check0VC:=by
 intro bs hc hl
 have hn:=fineB_not.1 hc
 refine ⟨fun h4=>⟨rfl,trivial,trivial⟩,fun h4 _=>⟨fun h5=>⟨rfl,trivial,trivial⟩,fun h5=>⟨trivial,fun h6=>⟨rfl,trivial,trivial⟩,fun h6=>?_⟩⟩⟩
 exfalso
 simp only [decide_eq_false_iff_not] at h4 h5 h6
 exact hn ⟨by omega,by omega,by omega⟩
theorem check0_ok:Fits E4 f102 (bodyOf f102) (checkLS.one false) noAnn:=by
 constructor
 rw [← check0_eq]
 exact check0_vc
end Go.Proofs.YthkffadomgcdaaaGreatDoor

/-! Contracts around a condition's check: they hold (second). Conditions: none. -/
namespace Go.Proofs.YthkffadomgcdaaaGreatDoor
open Go Go.Eng Go.Proofs.Tryz
theorem sumK_take_succ:∀ {bs:List Br} {k:Nat} {y:Br},bs[k]?=some y→sumK (bs.take (k+1))=sumK (bs.take k)+y.keys.length
 | [],k,y,h=>by simp at h
 | b::l,0,y,h=>by simp at h; subst h; simp [sumK]
 | b::l,k+1,y,h=>by
  have:=sumK_take_succ (bs:=l) (k:=k) (y:=y) (by simpa using h)
  simp only [List.take_succ_cons,sumK,this]; omega
theorem sumK_take_le:∀ (bs:List Br) (k:Nat),sumK (bs.take k)≤sumK bs
 | [],k=>by simp
 | b::l,0=>by simp [sumK]
 | b::l,k+1=>by
  have:=sumK_take_le l k
  simp only [List.take_succ_cons,sumK]; omega
theorem len_weight {bs:List Br} {k:Nat} {y:Br} (h:bs[k]?=some y):y.keys.length≤sumK bs:=by
 have h1:=sumK_take_succ h
 have h2:=sumK_take_le bs (k+1)
 omega
end Go.Proofs.YthkffadomgcdaaaGreatDoor

/-! The table of contracts, in a row. Conditions: none. -/
namespace Go.Proofs.YthkffadomgcdaaaGreatDoor
open Go Go.Eng Go.Proofs.Tryz
theorem f43_is:prog.funcs[128]?=some f128:=by kernel_rfl
theorem f43_body:f128.body=some (bodyOf f128):=by kernel_rfl
theorem f43_name : (f128.name == "runtime.NumGoroutine") = false := by kernel_rfl
theorem E1_eq:E1=EE prog L1:=by
 unfold E1
 rfl
theorem known2:Known prog L2:=by
 unfold L2
 exact Known.more known1 mixed f43_is f43_name f43_body E1_eq odd_ok oddPure
theorem f86_is:prog.funcs[100]?=some f100:=by kernel_rfl
theorem f86_body:f100.body=some (bodyOf f100):=by kernel_rfl
theorem f86_name : (f100.name == "runtime.NumGoroutine") = false := by kernel_rfl
theorem E2_eq:E2=EE prog L2:=by
 unfold E2
 rfl
theorem indexGot:∀ (args:List (SV AA)) (x:List (AA 66)),indexGet args=some x→eqva [.rseq 66 x,.fn (.func 128) .nil .nil] args:=by
 intro args x h
 unfold indexGet at h
 split at h
 ·split at h
  ·rename_i e; subst e
   exact ⟨asSeq_eqv h,by simp [eqv,eqvL],trivial⟩
  ·cases h
 ·cases h
theorem indexPure:Pure indexLS indexGet where
 hin:=fun _=>rfl
 got:=fun args x h=>indexGot args x h
 closed:=fun _=>rfl
theorem known3:Known prog L3:=by
 unfold L3
 exact Known.more known2 mixed f86_is f86_name f86_body E2_eq index_ok indexPure
theorem f45_is:prog.funcs[65]?=some f65:=by kernel_rfl
theorem f45_body:f65.body=some (bodyOf f65):=by kernel_rfl
theorem f45_name : (f65.name == "runtime.NumGoroutine") = false := by kernel_rfl
theorem E3_eq:E3=EE prog L3:=by
 unfold E3
 rfl
theorem anyPure:Pure anyLS indexGet where
 hin:=fun _=>rfl
 got:=fun args x h=>indexGot args x h
 closed:=fun _=>rfl
theorem known4:Known prog L4:=by
 unfold L4
 exact Known.more known3 mixed f45_is f45_name f45_body E3_eq any_ok anyPure
theorem condGot (t:Nat):∀ (args:List (SV AA)) (x:List (AA t)),condGet t args=some x→eqva [.agg (.cell (.rseq t x) .nil)] args:=by
 intro args x h
 unfold condGet at h
 split at h
 ·refine ⟨?_,trivial⟩
  simp only [eqv,eqvL]
  exact ⟨asSeq_eqv h,trivial⟩
 ·cases h
theorem f16_is:prog.funcs[102]?=some f102:=by kernel_rfl
theorem f16_body:f102.body=some (bodyOf f102):=by kernel_rfl
theorem f16_name : (f102.name == "runtime.NumGoroutine") = false := by kernel_rfl
theorem E4_eq:E4=EE prog L4:=by
 unfold E4
 rfl
theorem known5:Known prog L5:=by
 unfold L5
 exact Known.more2 known4 mixed f16_is f16_name f16_body E4_eq check1_ok check0_ok (fun args x h=>condGot 66 args x h) (fun _=>rfl)
theorem known6:Known prog L6:=by
 unfold L6
 exact known5
theorem known7:Known prog L7:=by
 unfold L7
 exact known6
end Go.Proofs.YthkffadomgcdaaaGreatDoor

/-! The document's check of a condition. Conditions: none. -/
namespace Go.Proofs.YthkffadomgcdaaaGreatDoor
open Go Go.Eng Go.Proofs.Tryz
theorem firstOdd_at {bs:List Br} {k:Nat} {y:Br} (hy:bs[k]?=some y):bs.drop k=y::bs.drop (k+1):=by
 have h3:k<bs.length:=(List.getElem?_eq_some_iff.1 hy).1
 rw [List.drop_eq_getElem_cons h3]
 rw [List.getElem?_eq_getElem h3] at hy
 cases hy; rfl
theorem bad_at {bs:List Br} {k:Nat} {y:Br} (hf:firstOdd bs 0=firstOdd (bs.drop k) k) (hy:bs[k]?=some y) (hm:¬May y):(bif fineB bs then (0:Int) else 1)=1:=by
 have h1:fineB bs=false:=fineB_not.2 fun hF=>by
  have h2:=hF.2.2
  rw [hf,firstOdd_at hy] at h2
  simp only [firstOdd,mayB_false hm] at h2
  simp at h2
  omega
 rw [h1]; rfl
theorem good_at {bs:List Br} {k:Nat} {y:Br} (hf:firstOdd bs 0=firstOdd (bs.drop k) k) (hy:bs[k]?=some y) (hm:May y):firstOdd bs 0=firstOdd (bs.drop (k+1)) (k+1):=by
 rw [hf,firstOdd_at hy]
 simp [firstOdd,mayB_true hm]
def refCheckVC:Prop:=∀ (x:List Br),
 x.length.le (9223372036854775807:Nat) →
  (x.length:Int)≤(9223372036854775807:Int) →
   (decide ((x.length:Int)<(1:Int))=true →
     (bif fineB x then (0:Int) else (1:Int))=(1:Int)∧True∧True) ∧
    (decide ((x.length:Int)<(1:Int))=false →
     (x.length:Int)≤(9223372036854775807:Int) →
      (decide ((x.length:Int)>(8:Int))=true →
        (bif fineB x then (0:Int) else (1:Int))=(1:Int)∧True∧True) ∧
       (decide ((x.length:Int)>(8:Int))=false →
        (∃ x_1,
          (x_1≤x.length∧firstOdd x (0:Nat)=firstOdd (List.drop x_1 x) x_1) ∧
           (x_1:Int)=(0:Int)∧((x=x∧True)∧True)∧True) ∧
         ∀ (x_1:Nat),
          x_1≤x.length∧firstOdd x (0:Nat)=firstOdd (List.drop x_1 x) x_1 →
           (x.length:Int)≤(9223372036854775807:Int) →
            (decide ((x_1:Int)<(x.length:Int))=true →
              (0:Int)≤(x_1:Int) ∧
               (x_1:Int)<(x.length:Int) ∧
                ∀ (y:AA (88:Nat)),
                 x[(x_1:Int).toNat]?=some y →
                  (y.keys.length:Int)≤(9223372036854775807:Int) →
                   (decide ((y.keys.length:Int)<(1:Int))=true →
                     (bif fineB x then (0:Int) else (1:Int))=(1:Int)∧True∧True) ∧
                    (decide ((y.keys.length:Int)<(1:Int))=false →
                     (decide (y.after<(0:Int))=true →
                       (bif fineB x then (0:Int) else (1:Int))=(1:Int)∧True∧True) ∧
                      (decide (y.after<(0:Int))=false →
                       (decide (y.after>(1099511627776:Int))=true →
                         (bif fineB x then (0:Int) else (1:Int))=(1:Int) ∧
                          True∧True) ∧
                        (decide (y.after>(1099511627776:Int))=false →
                         (decide (y.older<(0:Int))=true →
                           (bif fineB x then (0:Int) else (1:Int))=(1:Int) ∧
                            True∧True) ∧
                          (decide (y.older<(0:Int))=false →
                           (decide (y.older>(65536:Int))=true →
                             (bif fineB x then (0:Int) else (1:Int))=(1:Int) ∧
                              True∧True) ∧
                            (decide (y.older>(65536:Int))=false →
                             (∃ x_2,
                               (x_2≤y.keys.length∧Up y.keys x_2) ∧
                                (lastK y.keys x_2=(-1:Int) ∧
                                  (x_2:Int)=(0:Int)) ∧
                                 ((x=x∧True) ∧
                                   (y.keys=y.keys ∧
                                     y.lock=y.lock ∧
                                      y.after=y.after ∧
                                       y.older=y.older∧True) ∧
                                    True) ∧
                                  True) ∧
                              ∀ (x_2:Nat),
                               x_2≤y.keys.length∧Up y.keys x_2 →
                                (y.keys.length:Int)≤(9223372036854775807:Int) →
                                 (decide ((x_2:Int)<(y.keys.length:Int))=true →
                                   (0:Int)≤(x_2:Int) ∧
                                    (x_2:Int)<(y.keys.length:Int) ∧
                                     (x_2:Int).toNat<y.keys.length ∧
                                      (decide (y.keys.getD (x_2:Int).toNat (0:Int)≤lastK y.keys x_2)=true →
                                        (bif fineB x then (0:Int)
                                          else (1:Int)) =
                                          (1:Int) ∧
                                         True∧True) ∧
                                       (decide (y.keys.getD (x_2:Int).toNat (0:Int)≤lastK y.keys x_2) =
                                         false →
                                        (0:Int)≤(x_2:Int) ∧
                                         (x_2:Int) <
                                           (y.keys.length:Int) ∧
                                          (x_2:Int).toNat<y.keys.length ∧
                                           (decide (y.keys.getD (x_2:Int).toNat (0:Int)>(15:Int))=true →
                                             (bif fineB x then (0:Int)
                                               else (1:Int)) =
                                               (1:Int) ∧
                                              True∧True) ∧
                                            (decide (y.keys.getD (x_2:Int).toNat (0:Int)>(15:Int)) =
                                              false →
                                             (0:Int)≤(x_2:Int) ∧
                                              (x_2:Int) <
                                                (y.keys.length:Int) ∧
                                               (x_2:Int).toNat <
                                                 y.keys.length ∧
                                                inI64
                                                  ((x_2:Int) +
                                                   (1:Int)) ∧
                                                 ∃ y_1,
                                                  (y_1≤y.keys.length ∧
                                                    Up y.keys y_1) ∧
                                                   y.keys.length-y_1 <
                                                     y.keys.length -
                                                      x_2 ∧
                                                    (lastK y.keys y_1=y.keys.getD (x_2:Int).toNat (0:Int) ∧
                                                      (↑y_1 :
                                                        Int) =
                                                       (↑x_2 :
                                                         Int) +
                                                        (1 :
                                                         Int)) ∧
                                                     ((x=x∧True) ∧
                                                       (y.keys=y.keys ∧
                                                         y.lock =
                                                           y.lock ∧
                                                          y.after =
                                                            y.after ∧
                                                           y.older =
                                                             y.older ∧
                                                            True) ∧
                                                        True) ∧
                                                      True))) ∧
                                  (decide ((x_2:Int)<(y.keys.length:Int)) =
                                    false →
                                   inI64 ((x_1:Int)+(1:Int)) ∧
                                    ∃ y,
                                     (y≤x.length ∧
                                       firstOdd x (0:Nat) =
                                        firstOdd (List.drop y x) y) ∧
                                      x.length-y<x.length-x_1 ∧
                                       (y:Int)=(x_1:Int)+(1:Int) ∧
                                        ((x=x∧True)∧True)∧True))))))) ∧
             (decide ((x_1:Int)<(x.length:Int))=false →
              (bif fineB x then (0:Int) else (1:Int))=(0:Int)∧True∧True)))
theorem refCheck_eq:refCheckVC=fnS E7 f33 (bodyOf f33) refCheckLS refCheckAnn:=by kernel_rfl
theorem refCheck_vc:refCheckVC:=by
 intro bs _ hl
 have small:(¬(1≤bs.length∧bs.length≤8))→(bif fineB bs then (0:Int) else 1)=1:=fun h=>by
  have h1:fineB bs=false:=fineB_not.2 fun hF=>h ⟨hF.1,hF.2.1⟩
  rw [h1]; rfl
 refine ⟨fun h1=>⟨small ?_,trivial,trivial⟩,fun h1 _=>⟨fun h2=>⟨small ?_,trivial,trivial⟩,fun h2=>⟨⟨0,⟨Nat.zero_le _,rfl⟩,rfl,⟨⟨rfl,trivial⟩,trivial⟩,trivial⟩,?_⟩⟩⟩
 ·simp only [decide_eq_true_eq] at h1; omega
 ·simp only [decide_eq_true_eq] at h2; omega
 rintro k ⟨hk,hf⟩ _
 simp only [decide_eq_false_iff_not] at h1 h2
 refine ⟨fun h3=>?_,fun h3=>⟨?_,trivial,trivial⟩⟩
 ·simp only [decide_eq_true_eq] at h3
  refine ⟨by omega,by omega,fun y hy hyl=>?_⟩
  change Br at y
  have hy2:bs[k]?=some y:=by
   have h0:=hy
   rw [Int.toNat_natCast] at h0
   exact h0
  have bad:¬May y→(bif fineB bs then (0:Int) else 1)=1:=bad_at hf hy2
  refine ⟨fun h4=>⟨bad fun hm=>?_,trivial,trivial⟩,fun h4=>⟨fun h5=>⟨bad fun hm=>?_,trivial,trivial⟩,fun h5=>⟨fun h6=>⟨bad fun hm=>?_,trivial,trivial⟩,fun h6=>⟨fun h7=>⟨bad fun hm=>?_,trivial,trivial⟩,fun h7=>⟨fun h8=>⟨bad fun hm=>?_,trivial,trivial⟩,fun h8=>?_⟩⟩⟩⟩⟩
  ·simp only [decide_eq_true_eq] at h4; have:=hm.2.1; omega
  ·simp only [decide_eq_true_eq] at h5; have:=hm.2.2.1; omega
  ·simp only [decide_eq_true_eq] at h6; have:=hm.2.2.2.1; omega
  ·simp only [decide_eq_true_eq] at h7; have:=hm.2.2.2.2.1; omega
  ·simp only [decide_eq_true_eq] at h8; have:=hm.2.2.2.2.2; omega
  simp only [decide_eq_false_iff_not] at h4 h5 h6 h7 h8
  refine ⟨⟨0,⟨Nat.zero_le _,up_zero _⟩,⟨rfl,rfl⟩,⟨⟨rfl,trivial⟩,⟨rfl,rfl,rfl,rfl,trivial⟩,trivial⟩,trivial⟩,?_⟩
  rintro j ⟨hj,hup⟩ _
  refine ⟨fun h9=>?_,fun h9=>?_⟩
  ·simp only [decide_eq_true_eq] at h9
   refine ⟨by omega,by omega,by omega,fun h10=>⟨bad fun hm=>?_,trivial,trivial⟩,fun h10=>⟨by omega,by omega,by omega,fun h11=>⟨bad fun hm=>?_,trivial,trivial⟩,fun h11=>⟨by omega,by omega,by omega,by unfold inI64; omega,j+1,⟨by omega,?_⟩,by omega,⟨?_,by omega⟩,⟨⟨rfl,trivial⟩,⟨rfl,rfl,rfl,rfl,trivial⟩,trivial⟩,trivial⟩⟩⟩
   ·simp only [decide_eq_true_eq,Int.toNat_natCast] at h10
    have h12:=hm.1 j (by omega)
    cases j with
    | zero=>simp only [lastK] at h10; omega
    | succ i=>
     simp only [lastK] at h10
     have h13:=h12.2.2
     simp only [Nat.add_sub_cancel] at h13
     omega
   ·simp only [decide_eq_true_eq,Int.toNat_natCast] at h11
    have h12:=hm.1 j (by omega)
    omega
   ·simp only [decide_eq_false_iff_not,Int.toNat_natCast] at h10 h11
    cases j with
    | zero=>
     simp only [lastK] at h10
     exact up_succ hup (by omega) (by omega) (.inl rfl)
    | succ i=>
     simp only [lastK] at h10
     have h13:=(hup i (by omega)).1
     exact up_succ hup (by omega) (by omega) (.inr (by simp only [Nat.add_sub_cancel]; omega))
   ·simp only [Int.toNat_natCast]; rfl
  ·simp only [decide_eq_false_iff_not] at h9
   have hjl:j=y.keys.length:=by omega
   subst hjl
   have hm:May y:=⟨hup,by omega,by omega,by omega,by omega,by omega⟩
   exact ⟨by unfold inI64; omega,k+1,⟨by omega,good_at hf hy2 hm⟩,by omega,by omega,⟨⟨rfl,trivial⟩,trivial⟩,trivial⟩
 ·simp only [decide_eq_false_iff_not] at h3
  have hF:fineB bs=true:=fineB_iff.2 ⟨by omega,by omega,by
   rw [hf,List.drop_of_length_le (by omega)]
   simp [firstOdd]⟩
  rw [hF]; rfl
theorem refCheck_ok:Fits E7 f33 (bodyOf f33) refCheckLS refCheckAnn:=by
 constructor
 rw [← refCheck_eq]
 exact refCheck_vc
theorem f18_is:prog.funcs[33]?=some f33:=by kernel_rfl
theorem f18_body:f33.body=some (bodyOf f33):=by kernel_rfl
theorem f18_name : (f33.name == "runtime.NumGoroutine") = false := by kernel_rfl
theorem E7_eq:E7=EE prog L7:=by
 unfold E7
 rfl
theorem refCheckPure:Pure refCheckLS (condGet 88) where
 hin:=fun _=>rfl
 got:=fun args x h=>condGot 88 args x h
 closed:=fun _=>rfl
theorem known8:Known prog L8:=by
 unfold L8
 exact Known.more known7 mixed f18_is f18_name f18_body E7_eq refCheck_ok refCheckPure
end Go.Proofs.YthkffadomgcdaaaGreatDoor

/-! errors.As at this program's error numbers. Conditions: the variable errors.errorType holds what its row says. Began as the kit's worked example 'ToyasAs', turned to this program's types. -/
namespace Go.Proofs.YthkffadomgcdaaaGreatDoor
open Go.RowKit Go.Extern.Stop Go.Stop Go.Extern
theorem TT_valueOf27 (t:Addr) (w:World):(ReflectliteValue.unpack (.iface 113 (.pointer (some t)))).run Tryz.prog w
  = .ok (.agg #[.pointer (some ⟨2,113,none⟩),.pointer (some ⟨w.heap.size,0,none⟩),.int .u64 150]) (w.alloc (.cells #[.pointer (some t)] 113)):=by kernel_rfl
theorem TT_type27 (a : Addr) (w : World) : (ReflectliteValue.methodAny (ReflectliteValue.valueError "reflectlite.Value.Type" 0) (fun t _ _ _ => ReflectliteType.toType t) #[.agg #[.pointer (some ⟨2, 113, none⟩), .pointer (some a), .int .u64 150]]).run Tryz.prog w
  = .ok (.iface 201 (.agg #[.pointer (some ⟨2,113,none⟩)])) w:=by kernel_rfl
theorem TT_methodKind (h : Value) (w : World) : (Go.method 385 201 (.agg #[h]) "Kind").run Tryz.prog w = .ok (157, h) w := by kernel_rfl
theorem TT_kind27 (w:World):((ReflectliteType.abiMethod fun t=>(fun a:Nat=>Value.int IntKind.u8 (a:Int)) <$> Rtype.kind t) #[.pointer (some ⟨2,113,none⟩)]).run Tryz.prog w = .ok (.int .u8 22) w:=by kernel_rfl
theorem TT_kind25 (w:World):((ReflectliteType.abiMethod fun t=>(fun a:Nat=>Value.int IntKind.u8 (a:Int)) <$> Rtype.kind t) #[.pointer (some ⟨2,111,none⟩)]).run Tryz.prog w = .ok (.int .u8 2) w:=by kernel_rfl
theorem rlm (z:Sem Value) (f:TypeId→Addr→Nat→Nat→Sem Value) (v:Value) :
  ReflectliteValue.method z f #[v]=(do match ← ReflectliteValue.parts v with | none=>z | some (t,a,fl)=>f t a fl (fl%32)):=rfl
theorem TT_parts27 (a:Addr) (w:World):(ReflectliteValue.parts (.agg #[.pointer (some ⟨2,113,none⟩),.pointer (some a),.int .u64 150])).run Tryz.prog w = .ok (some (113,a,150)) w:=by kernel_rfl
/-- (Value).IsNil at the Value of a **p.E that is not nil. -/
theorem TT_isNil27 (a p:Addr) (W:World) (ha:W.cell? a=some (.pointer (some p))) :
  (ReflectliteValue.method (ReflectliteValue.valueError "reflectlite.Value.IsNil" 0) ReflectliteValue.isNil #[.agg #[.pointer (some ⟨2, 113, none⟩), .pointer (some a), .int .u64 150]]).run Tryz.prog W = .ok (.bool false) W := by
 rw [rlm]
 simp only [Sem.run_bind,TT_parts27,Result.andThen]
 simp [ReflectliteValue.isNil,loadVar,isAgg,underlying,Tryz.underlying113,ha,Result.andThen]
theorem TT_methodElem (h : Value) (w : World) : (Go.method 385 201 (.agg #[h]) "Elem").run Tryz.prog w = .ok (170, .agg #[h]) w := by kernel_rfl
theorem TT_methodImplements (h : Value) (w : World) : (Go.method 385 201 (.agg #[h]) "Implements").run Tryz.prog w = .ok (171, .agg #[h]) w := by kernel_rfl
theorem TT_methodAssignableTo (h : Value) (w : World) : (Go.method 385 201 (.agg #[h]) "AssignableTo").run Tryz.prog w = .ok (168, .agg #[h]) w := by kernel_rfl
theorem TT_elem27 (w:World):(ReflectliteType.method ReflectliteType.elem #[.agg #[.pointer (some ⟨2,113,none⟩)]]).run Tryz.prog w = .ok (.iface 201 (.agg #[.pointer (some ⟨2,111,none⟩)])) w:=by kernel_rfl
theorem TT_implements25 (w : World) : (ReflectliteType.relation "Implements" ReflectliteType.implements_ #[.agg #[.pointer (some ⟨2, 111, none⟩)], .iface 201 (.agg #[.pointer (some ⟨2, 49, none⟩)])]).run Tryz.prog w = .ok (.bool true) w := by kernel_rfl
theorem TT_typeOf25 (v:Value) (w:World):(ReflectliteType.typeOf #[.iface 111 v]).run Tryz.prog w = .ok (.iface 201 (.agg #[.pointer (some ⟨2,111,none⟩)])) w:=by kernel_rfl
theorem TT_assignable25 (w : World) : (ReflectliteType.relation "AssignableTo" ReflectliteType.assignableTo #[.agg #[.pointer (some ⟨2, 111, none⟩)], .iface 201 (.agg #[.pointer (some ⟨2, 111, none⟩)])]).run Tryz.prog w = .ok (.bool true) w := by kernel_rfl
theorem TT_valueOf25 (n:Int) (w:World):(ReflectliteValue.unpack (.iface 111 (.int .i64 n))).run Tryz.prog w
  = .ok (.agg #[.pointer (some ⟨2,111,none⟩),.pointer (some ⟨w.heap.size,0,none⟩),.int .u64 130]) (w.alloc (.cells #[.int .i64 n] 111)):=by kernel_rfl
theorem TT_elemOf27 (w:World):(Rtype.elem? 113).run Tryz.prog w = .ok (some 111) w:=by kernel_rfl
theorem TT_mk25 (p:Addr) (w:World):(ReflectliteValue.mk 111 p ReflectliteValue.flagAddr).run Tryz.prog w = .ok (.agg #[.pointer (some ⟨2,111,none⟩),.pointer (some p),.int .u64 386]) w:=by kernel_rfl
/-- (Value).Elem at the Value of a **p.E that is not nil: the Value of the *p.E variable that it points to, addressable. -/
theorem TT_elemV27 (a p:Addr) (W:World) (ha:W.cell? a=some (.pointer (some p))) :
  (ReflectliteValue.method (ReflectliteValue.valueError "reflectlite.Value.Elem" 0) ReflectliteValue.elem #[.agg #[.pointer (some ⟨2, 113, none⟩), .pointer (some a), .int .u64 150]]).run Tryz.prog W
   = .ok (.agg #[.pointer (some ⟨2,111,none⟩),.pointer (some p),.int .u64 386]) W:=by
 rw [rlm]
 simp only [Sem.run_bind,TT_parts27,Result.andThen]
 simp [ReflectliteValue.elem,loadVar,isAgg,underlying,Tryz.underlying113,ha,Result.andThen,TT_elemOf27,TT_mk25]
theorem rls (v x:Value):ReflectliteValue.set #[v,x]=(do
  let (some (dst,a,fl),some (src,b,_)):=(← ReflectliteValue.parts v,← ReflectliteValue.parts x)
   | unsupported (.noEntry "extern/(internal/reflectlite.Value).Set.zeroValue")
  if fl / ReflectliteValue.flagAddr % 2 == 0 then unsupported (.noEntry "extern/(internal/reflectlite.Value).Set.unaddressable")
  let val ← loadVar src b
  if ← Rtype.directlyAssignable dst src then storeVar dst a val
  else if ← Rtype.implements dst src then
   if (← Rtype.kind src)==20 then
    match val with
    | .nilIface => unsupported (.noEntry "extern/reflectlite: a nil value of one interface type handed on as a value of another")
    | _=>storeVar dst a val
   else storeVar dst a (.iface src val)
  else panicString ("reflectlite.Set: value of type " ++ (← Rtype.spelt src) ++ " is not assignable to type " ++ (← Rtype.spelt dst))
  pure (.tuple #[])):=rfl
theorem TT_parts25a (a:Addr) (w:World):(ReflectliteValue.parts (.agg #[.pointer (some ⟨2,111,none⟩),.pointer (some a),.int .u64 386])).run Tryz.prog w = .ok (some (111,a,386)) w:=by kernel_rfl
theorem TT_parts25 (a:Addr) (w:World):(ReflectliteValue.parts (.agg #[.pointer (some ⟨2,111,none⟩),.pointer (some a),.int .u64 130])).run Tryz.prog w = .ok (some (111,a,130)) w:=by kernel_rfl
theorem TT_direct25 (w:World):(Rtype.directlyAssignable 111 111).run Tryz.prog w = .ok true w:=by kernel_rfl
/-- (Value).Set: the *p.E variable at 'ta' gets what the Value's own variable 'b' holds. -/
theorem TT_set25 (ta b:Addr) (n:Int) (old:Value) (W:World) (hb:W.cell? b=some (.int .i64 n)) (ht:W.cell? ta=some old) (hf:W.frozen? ta=false) :
  (ReflectliteValue.set #[.agg #[.pointer (some ⟨2,111,none⟩),.pointer (some ta),.int .u64 386],.agg #[.pointer (some ⟨2,111,none⟩),.pointer (some b),.int .u64 130]]).run Tryz.prog W
   = .ok (.tuple #[]) (W.setCell ta (.int .i64 n)):=by
 rw [rls]
 simp only [Sem.run_bind,TT_parts25a,TT_parts25,Result.andThen]
 simp [ReflectliteValue.flagAddr,loadVar,isAgg,underlying,Tryz.underlying111,hb,Result.andThen,TT_direct25,storeVar,Value.cells,storeCells,Addr.add]
 rw [run_store Tryz.prog W ta _ _ (by rfl)]
 simp [ht,hf]
set_option maxHeartbeats 4000000 in
theorem as_hit (n:Int) (t:Addr) (old:Value) (w:World) (hg:w.cell? ⟨0,0,none⟩=some (.iface 201 (.agg #[.pointer (some ⟨2,49,none⟩)]))) (ht0:w.cell? t=some old) (hf0:w.frozen? t=false) :
  Calls Tryz.prog 35 #[.iface 111 (.int .i64 n),.iface 113 (.pointer (some t))] w fun ev w'=>ev = .returned (.bool true)∧w'=((((w.alloc (.cells #[.pointer (some t)] 113)).alloc (.cells #[.pointer (some ⟨2,113,none⟩),.pointer (some ⟨w.heap.size,0,none⟩),.int .u64 150] 152)).alloc (.cells #[.pointer (some ⟨2,113,none⟩),.pointer (some ⟨w.heap.size,0,none⟩),.int .u64 150] 152)).alloc (.cells #[.int .i64 n] 111)).setCell t (.int .i64 n):=by
 have h6:=@run_callFunc_extern Tryz.prog 61 _ (fun args=>ReflectliteValue.unpack (args.getD 0 (.tuple #[]))) Tryz.func61 (by kernel_rfl) (by kernel_rfl) (by kernel_rfl) (by kernel_rfl)
 have h7 := @run_callFunc_extern Tryz.prog 62 _ (ReflectliteValue.methodAny (ReflectliteValue.valueError "reflectlite.Value.Type" 0) (fun t _ _ _ => ReflectliteType.toType t)) Tryz.func62 (by kernel_rfl) (by kernel_rfl) (by kernel_rfl) (by kernel_rfl)
 have h8 := @run_callFunc_extern Tryz.prog 63 _ (ReflectliteValue.method (ReflectliteValue.valueError "reflectlite.Value.IsNil" 0) ReflectliteValue.isNil) Tryz.func63 (by kernel_rfl) (by kernel_rfl) (by kernel_rfl) (by kernel_rfl)
 have h27:=@run_callFunc_extern Tryz.prog 157 _ (ReflectliteType.abiMethod fun t=>do pure (.int .u8 (← Rtype.kind t))) Tryz.func157 (by kernel_rfl) (by kernel_rfl) (by kernel_rfl) (by kernel_rfl)
 have h37:=@run_callFunc_extern Tryz.prog 170 _ (ReflectliteType.method ReflectliteType.elem) Tryz.func170 (by kernel_rfl) (by kernel_rfl) (by kernel_rfl) (by kernel_rfl)
 have h38 := @run_callFunc_extern Tryz.prog 171 _ (ReflectliteType.relation "Implements" ReflectliteType.implements_) Tryz.func171 (by kernel_rfl) (by kernel_rfl) (by kernel_rfl) (by kernel_rfl)
 have h10:=@run_callFunc_extern Tryz.prog 97 _ ReflectliteType.typeOf Tryz.func97 (by kernel_rfl) (by kernel_rfl) (by kernel_rfl) (by kernel_rfl)
 have h35 := @run_callFunc_extern Tryz.prog 168 _ (ReflectliteType.relation "AssignableTo" ReflectliteType.assignableTo) Tryz.func168 (by kernel_rfl) (by kernel_rfl) (by kernel_rfl) (by kernel_rfl)
 have h11 := @run_callFunc_extern Tryz.prog 98 _ (ReflectliteValue.method (ReflectliteValue.valueError "reflectlite.Value.Elem" 0) ReflectliteValue.elem) Tryz.func98 (by kernel_rfl) (by kernel_rfl) (by kernel_rfl) (by kernel_rfl)
 have h12:=@run_callFunc_extern Tryz.prog 99 _ ReflectliteValue.set Tryz.func99 (by kernel_rfl) (by kernel_rfl) (by kernel_rfl) (by kernel_rfl)
 have tO:=TT_typeOf25
 have mA:=TT_methodAssignableTo
 have a25:=TT_assignable25
 have v25:=TT_valueOf25
 have f6:=TT_valueOf27
 have f7:=TT_type27
 have mK:=TT_methodKind
 have mE:=TT_methodElem
 have mI:=TT_methodImplements
 have k27:=TT_kind27
 have k25:=TT_kind25
 have e27:=TT_elem27
 have i25:=TT_implements25
 have n8:=TT_isNil27 ⟨w.heap.size,0,none⟩ t ((w.alloc (.cells #[.pointer (some t)] 113)).alloc (.cells #[.pointer (some ⟨2,113,none⟩),.pointer (some ⟨w.heap.size,0,none⟩),.int .u64 150] 152)) (by simp)
 have hlt:0<w.heap.size:=by
  rcases Nat.eq_zero_or_pos w.heap.size with h0 | h
  ·simp [World.cell?,h0] at hg
  ·exact h
 have hg2:((w.alloc (.cells #[.pointer (some t)] 113)).alloc (.cells #[.pointer (some ⟨2,113,none⟩),.pointer (some ⟨w.heap.size,0,none⟩),.int .u64 150] 152)).cell? ⟨0,0,none⟩=some (.iface 201 (.agg #[.pointer (some ⟨2,49,none⟩)])):=by
  rw [World.cell?_alloc_lt _ _ ⟨0,0,none⟩ (by simp),World.cell?_alloc_lt _ _ ⟨0,0,none⟩ hlt]; exact hg
 have htl:t.block<w.heap.size:=by
  rcases Nat.lt_or_ge t.block w.heap.size with h | h
  ·exact h
  ·simp [World.cell?,Array.getElem?_eq_none h] at ht0
 have el:=TT_elemV27 ⟨w.heap.size,0,none⟩ t (((w.alloc (.cells #[.pointer (some t)] 113)).alloc (.cells #[.pointer (some ⟨2,113,none⟩),.pointer (some ⟨w.heap.size,0,none⟩),.int .u64 150] 152)).alloc (.cells #[.pointer (some ⟨2,113,none⟩),.pointer (some ⟨w.heap.size,0,none⟩),.int .u64 150] 152)) (by rw [World.cell?_alloc_lt _ _ ⟨w.heap.size,0,none⟩ (by simp; omega)]; simp)
 have st:=TT_set25 t ⟨w.heap.size+1+1+1,0,none⟩ n old ((((w.alloc (.cells #[.pointer (some t)] 113)).alloc (.cells #[.pointer (some ⟨2,113,none⟩),.pointer (some ⟨w.heap.size,0,none⟩),.int .u64 150] 152)).alloc (.cells #[.pointer (some ⟨2,113,none⟩),.pointer (some ⟨w.heap.size,0,none⟩),.int .u64 150] 152)).alloc (.cells #[.int .i64 n] 111))
  (by rw [World.cell?_alloc_at _ _ _ _ (by simp)]; rfl)
  (by rw [World.cell?_alloc_lt _ _ t (by simp; omega),World.cell?_alloc_lt _ _ t (by simp; omega),World.cell?_alloc_lt _ _ t (by simp; omega),World.cell?_alloc_lt _ _ t htl]; exact ht0)
  (by rw [World.frozen?_alloc_old _ _ t (by simp; omega),World.frozen?_alloc_old _ _ t (by simp; omega),World.frozen?_alloc_old _ _ t (by simp; omega),World.frozen?_alloc_old _ _ t (Nat.ne_of_lt htl)]; exact hf0)
 go_enter Tryz.func35,Tryz.ntmps35
 go_wp2
 refine wp_loop_rounds 1 ?_
 rw [rounds_succ]
 go_wp2
 go_ret
 exact ⟨rfl,rfl⟩
end Go.Proofs.YthkffadomgcdaaaGreatDoor

/-! An error's number. Conditions: the variable errors.errorType holds what its row says. Began as the kit's worked example 'ToyasWalks', turned to this program. -/
namespace Go.Proofs.YthkffadomgcdaaaGreatDoor
open Go.RowKit Go.Extern.Stop Go.Stop Go.Extern
end Go.Proofs.YthkffadomgcdaaaGreatDoor

/-! An error's number: the contract. Conditions: none. -/
namespace Go.Proofs.YthkffadomgcdaaaGreatDoor
open Go Go.Eng Go.Proofs.Tryz
theorem left_old {O:Nat→Prop} {C:Enc AA} {q:Bool} {env:List Wit} {w w':World} {sh:List (SO AA)} {K:Pred AA} {s:SV AA} {v:Value} (hh:HR O env w C sh) (ho:Old w w') (h1:w'.os=w.os) (h2:w'.tape=w.tape) (h3:w'.output=w.output)
  (hr:Rep O env w' C s v) (hk:K s sh):Go.Eng.Left O C q env w K v w':=by
 have hs:Step env w env w':=⟨h1,h2,h3,ho.size,Nat.le_refl _,fun _ x h=>⟨x,h,.refl x⟩,fun _ h => .inl h,fun b hb _=>ho.same b hb⟩
 exact ⟨s,sh,env,hr,⟨hh.len,fun i so y h4 h5=>(hh.rep i so y h4 h5).step hs (fun b hb=>ho.same b (hh.lt b ⟨i,y,h5,hb⟩)),hh.disj,hh.out,fun b hb=>Nat.lt_of_lt_of_le (hh.lt b hb) ho.size,fun b hb=>Nat.lt_of_lt_of_le (hh.olt b hb) ho.size⟩,hs,fun _=>⟨ho.size,ho.same⟩,hk⟩
def numT:SpecT AA:=fun args sh K=>match args with
 | [.val .nilIface]=>K (.int .i64 0) sh
 | [.iface t s]=>if t=111 then (match asI s with
  | some n=>K (.int .i64 n) sh
  | none=>False) else False
 | [.err t n]=>if t=111 then K (.int .i64 n) sh else False
 | _=>False
/-- A call that returns, and leaves what was there. -/
theorem callR_old {P : Program} {f : FuncId} {fn : Func} {c : Code} (hf : P.funcs[f]? = some fn) (hname : (fn.name == "runtime.NumGoroutine") = false) (hb : fn.body = some c) {vs : Array Value} {w : World} {O : Nat → Prop} {C : Enc AA} {q : Bool} {env : List Wit} {sh : List (SO AA)} {K : Pred AA} {v : Value} {W : World} {s : SV AA}
  (h:Calls P f vs w fun e w'=>e = .returned v∧w'=W) (hh:HR O env w C sh) (ho:Old w W) (h1:W.os=w.os) (h2:W.tape=w.tape) (h3:W.output=w.output) (hr:Rep O env W C s v) (hk:K s sh):CallR P f vs w (Go.Eng.Left O C q env w K):=by
 refine callR_of_calls hf hname hb (h.mono fun e w' he=>?_)
 obtain ⟨rfl,rfl⟩:=he
 exact left_old hh ho h1 h2 h3 hr hk
theorem num_known {P : Program} {f : FuncId} {l : List (Nat × SpecT AA)} (k : Known P l) {fn : Func} {c : Code} (hf : P.funcs[f]? = some fn) (hname : (fn.name == "runtime.NumGoroutine") = false) (hb : fn.body = some c)
  (hnil:∀ w,Calls P f #[.nilIface] w fun e w'=>e = .returned (.int .i64 0)∧w'=w.alloc (.cells #[.int .i64 0] 111))
  (herr:∀ (n:Int) (w:World),w.cell? ⟨0,0,none⟩=some (.iface 201 (.agg #[.pointer (some ⟨2,49,none⟩)]))→Calls P f #[.iface 111 (.int .i64 n)] w fun e w'=>e = .returned (.int .i64 n)∧w'=((((w.alloc (.cells #[.int .i64 n] 111)).alloc (.cells #[.pointer (some ⟨w.heap.size,0,none⟩)] 113)).alloc (.cells #[.pointer (some ⟨2,113,none⟩),.pointer (some ⟨w.heap.size+1,0,none⟩),.int .u64 150] 152)).alloc (.cells #[.pointer (some ⟨2,113,none⟩),.pointer (some ⟨w.heap.size+1,0,none⟩),.int .u64 150] 152)).alloc (.cells #[.int .i64 n] 111)):Known P ((f,numT)::l):=by
 refine Known.cons ?_ k
 intro args sh K hk O env w vs ha hh hg
 unfold numT at hk
 split at hk
 ·obtain ⟨u,us,rfl,h1,h2⟩:=ha
  have h3:us=[]:=h2
  subst h3
  have h4:=h1.inv_val
  subst h4
  exact callR_old hf hname hb (hnil w) hh (Old.alloc _ _) rfl rfl rfl .int hk
 ·split at hk
  ·rename_i e
   subst e
   split at hk
   ·rename_i n hn
    obtain ⟨u,us,rfl,h1,h2⟩:=ha
    have h3:us=[]:=h2
    subst h3
    obtain ⟨v,rfl,h4⟩:=h1.inv_iface
    have h5:v = .int .i64 n:=by
     unfold asI at hn
     split at hn
     ·cases hn; exact h4.inv_int
     ·cases hn; exact h4.inv_lit
     ·cases hn
    subst h5
    have hg0:=hg 0 _ rfl
    obtain ⟨b,o,vs,e1,_,_,_,hc,hr⟩:=hg0.inv_rptr
    obtain ⟨x,xs,rfl,hx,_⟩:=hr.inv_cell
    have hx:=hx.inv_val
    subst hx
    have e2:b=0∧o=0:=by simp at e1; omega
    obtain ⟨rfl,rfl⟩:=e2
    have hcell:=hc 0 _ rfl
    exact callR_old hf hname hb (herr n w hcell) hh (((((Old.alloc _ _).trans (Old.alloc _ _)).trans (Old.alloc _ _)).trans (Old.alloc _ _)).trans (Old.alloc _ _)) rfl rfl rfl .int hk
   ·exact hk.elim
  ·exact hk.elim
 ·split at hk
  ·rename_i e
   subst e
   obtain ⟨u,us,rfl,h1,h2⟩:=ha
   have h3:us=[]:=h2
   subst h3
   rcases h1.inv_err with ⟨rfl,rfl⟩ | ⟨hn,rfl⟩
   ·exact callR_old hf hname hb (hnil w) hh (Old.alloc _ _) rfl rfl rfl .int hk
   ·obtain ⟨b,o,vs,e1,_,_,_,hc,hr⟩:=(hg 0 _ rfl).inv_rptr
    obtain ⟨x,xs,rfl,hx,_⟩:=hr.inv_cell
    have hx:=hx.inv_val
    subst hx
    have e2:b=0∧o=0:=by simp at e1; omega
    obtain ⟨rfl,rfl⟩:=e2
    have hcell:=hc 0 _ rfl
    exact callR_old hf hname hb (herr _ w hcell) hh (((((Old.alloc _ _).trans (Old.alloc _ _)).trans (Old.alloc _ _)).trans (Old.alloc _ _)).trans (Old.alloc _ _)) rfl rfl rfl .int hk
  ·exact hk.elim
 ·exact hk.elim
def L9:List (Nat×SpecT AA):=L8
theorem known9:Known prog L9:=by
 unfold L9
 exact known8
end Go.Proofs.YthkffadomgcdaaaGreatDoor

/-! Number by number. Conditions: none. -/
namespace Go.Proofs.YthkffadomgcdaaaGreatDoor
open Go Go.Eng Go.Proofs.Tryz
end Go.Proofs.YthkffadomgcdaaaGreatDoor

/-! Number by number: it holds. Conditions: none. -/
namespace Go.Proofs.YthkffadomgcdaaaGreatDoor
open Go Go.Eng Go.Proofs.Tryz
def L10:List (Nat×SpecT AA):=L9
theorem known10:Known prog L10:=by
 unfold L10
 exact known9
end Go.Proofs.YthkffadomgcdaaaGreatDoor

/-! DERIVED: THE SHELF's CONTRACTS AT THIS DUMP, IN PLAIN WORDS (tools/lay-plain.mjs out of 'TryzShelf.lean', which tools/lay-shelf.mjs wrote): THE SAME DECLARATIONS UNDER THE SAME NAMES: 'import', 'namespace', 'open', 'def', 'theorem' AND NOTHING ELSE: no command of the shelf's: FOR A HAND-IN. Each laying: the table of numbers ('.._ren') and one theorem, a field a fact of the dump's own or the kernel's comparison; each contract: ONE APPLICATION. -/
namespace Go.Proofs
open Go.Shelf
def Tryz.lays189_ren:Go.Shelf.Ren:=⟨fun | 189=>40 | 125=>74 | 257=>73 | 128=>111 | 129=>112 | 294=>103 | 295=>104 | 296=>105 | 297=>106 | 298=>107 | 299=>108 | 216=>75 | 300=>109 | 301=>110 | 328=>130 | 329=>131 | 330=>132 | 331=>133 | 332=>134 | 215=>113 | 343=>141 | n=>n,fun | 28=>33 | 3=>3 | 46=>38 | 0=>0 | 51=>174 | 53=>137 | 4=>4 | 183=>218 | 182=>217 | 131=>125 | 5=>5 | 9=>9 | 218=>237 | 222=>241 | 228=>255 | 229=>105 | n=>n,fun | n=>n⟩
theorem Tryz.lays189:Go.Proofs.Lays.n189 Tryz.prog Tryz.lays189_ren:={
 mixed:=by kernel_rfl
 f125:=Tryz.func74.trans (congrArg some (by kernel_rfl))
 f128:=Tryz.func111.trans (congrArg some (by kernel_rfl))
 f129:=Tryz.func112.trans (congrArg some (by kernel_rfl))
 f189:=Tryz.func40.trans (congrArg some (by kernel_rfl))
 f215:=Tryz.func113.trans (congrArg some (by kernel_rfl))
 f216:=Tryz.func75.trans (congrArg some (by kernel_rfl))
 f257:=Tryz.func73.trans (congrArg some (by kernel_rfl))
 f294:=Tryz.func103.trans (congrArg some (by kernel_rfl))
 f295:=Tryz.func104.trans (congrArg some (by kernel_rfl))
 f296:=Tryz.func105.trans (congrArg some (by kernel_rfl))
 f297:=Tryz.func106.trans (congrArg some (by kernel_rfl))
 f298:=Tryz.func107.trans (congrArg some (by kernel_rfl))
 f299:=Tryz.func108.trans (congrArg some (by kernel_rfl))
 f300:=Tryz.func109.trans (congrArg some (by kernel_rfl))
 f301:=Tryz.func110.trans (congrArg some (by kernel_rfl))
 f328:=Tryz.func130.trans (congrArg some (by kernel_rfl))
 f329:=Tryz.func131.trans (congrArg some (by kernel_rfl))
 f330:=Tryz.func132.trans (congrArg some (by kernel_rfl))
 f331:=Tryz.func133.trans (congrArg some (by kernel_rfl))
 f332:=Tryz.func134.trans (congrArg some (by kernel_rfl))
 f343:=Tryz.func141.trans (congrArg some (by kernel_rfl))
 t0:=Tryz.underlying0
 a0:=Tryz.isAgg0
 z0:=Tryz.sizeOf0
 v0:=Tryz.zeroValue0
 t3:=Tryz.underlying3
 a3:=Tryz.isAgg3
 z3:=Tryz.sizeOf3
 v3:=Tryz.zeroValue3
 t4:=Tryz.underlying4
 a4:=Tryz.isAgg4
 z4:=Tryz.sizeOf4
 v4:=Tryz.zeroValue4
 t5:=Tryz.underlying5
 a5:=Tryz.isAgg5
 z5:=Tryz.sizeOf5
 v5:=Tryz.zeroValue5
 t9:=Tryz.underlying9
 a9:=Tryz.isAgg9
 z9:=Tryz.sizeOf9
 v9:=Tryz.zeroValue9
 t28:=Tryz.underlying33
 a28:=Tryz.isAgg33
 z28:=Tryz.sizeOf33
 v28:=Tryz.zeroValue33
 t46:=Tryz.underlying38
 a46:=Tryz.isAgg38
 z46:=Tryz.sizeOf38
 v46:=Tryz.zeroValue38
 t51:=Tryz.underlying174
 a51:=Tryz.isAgg174
 z51:=Tryz.sizeOf174
 v51:=Tryz.zeroValue174
 t53:=Tryz.underlying137
 a53:=Tryz.isAgg137
 z53:=Tryz.sizeOf137
 v53:=Tryz.zeroValue137
 t131:=Tryz.underlying125
 a131:=Tryz.isAgg125
 z131:=Tryz.sizeOf125
 v131:=Tryz.zeroValue125
 t182:=Tryz.underlying217
 a182:=Tryz.isAgg217
 z182:=Tryz.sizeOf217
 v182:=Tryz.zeroValue217
 t183:=Tryz.underlying218
 a183:=Tryz.isAgg218
 z183:=Tryz.sizeOf218
 v183:=Tryz.zeroValue218
 t218:=Tryz.underlying237
 a218:=Tryz.isAgg237
 z218:=Tryz.sizeOf237
 v218:=Tryz.zeroValue237
 t222:=Tryz.underlying241
 a222:=Tryz.isAgg241
 z222:=Tryz.sizeOf241
 v222:=Tryz.zeroValue241
 t228:=Tryz.underlying255
 a228:=Tryz.isAgg255
 z228:=Tryz.sizeOf255
 v228:=Tryz.zeroValue255
 t229:=Tryz.underlying105
 a229:=Tryz.isAgg105
 z229:=Tryz.sizeOf105
 v229:=Tryz.zeroValue105 }
def Tryz.lays2_20_ren:Go.Shelf.Ren:=⟨fun | 20=>41 | n=>n,fun | 22=>33 | 3=>3 | 4=>4 | 0=>0 | n=>n,fun | n=>n⟩
theorem Tryz.lays2_20:Go.Proofs.Lays2.n20 Tryz.prog Tryz.lays2_20_ren:={
 mixed:=by kernel_rfl
 f20:=Tryz.func41.trans (congrArg some (by kernel_rfl))
 t0:=Tryz.underlying0
 a0:=Tryz.isAgg0
 z0:=Tryz.sizeOf0
 v0:=Tryz.zeroValue0
 t3:=Tryz.underlying3
 a3:=Tryz.isAgg3
 z3:=Tryz.sizeOf3
 v3:=Tryz.zeroValue3
 t4:=Tryz.underlying4
 a4:=Tryz.isAgg4
 z4:=Tryz.sizeOf4
 v4:=Tryz.zeroValue4
 t22:=Tryz.underlying33
 a22:=Tryz.isAgg33
 z22:=Tryz.sizeOf33
 v22:=Tryz.zeroValue33
 i3:=by kernel_rfl }
end Go.Proofs

/-! Sorting and striking equal neighbours: what a caller knows of them. Conditions: none. -/
namespace Go.Proofs.YthkffadomgcdaaaGreatDoor
open Go Go.Eng Go.Proofs.Tryz
section
variable {A:Nat→Type} {O:Nat→Prop} {env:List Wit} {w w':World} {C:Enc A} {sh:List (SO A)}
/-- A vector whose block was written, where it is. -/
theorem vec_same (h:HR O env w C sh) {i:Nat} {v:Value} (hb:env[i]?=some (.sl v)) (hg:w.grownBy w' v.ownBlock) (so:SO A) (hr:∀ (_:Step env w env w'),ORep O env w' C so (.sl v)) :
  HR O env w' C (setNth sh i so)∧Step env w env w':=by
 have hs:Step env w env w':=⟨hg.os,hg.tape,hg.output,hg.size,Nat.le_refl _,fun _ x h=>⟨x,h,.refl x⟩,fun _ h => .inl h,fun b hb' hn=>hg.block b hb' (fun e=>hn ⟨i,_,hb,e.symm⟩)⟩
 refine ⟨⟨by simp [setNth_eq,h.len],fun j so' x h1 h2=>?_,h.disj,h.out,fun b hb'=>Nat.lt_of_lt_of_le (h.lt b hb') hg.size,fun b hb'=>Nat.lt_of_lt_of_le (h.olt b hb') hg.size⟩,hs⟩
 rw [setNth_eq] at h1
 by_cases e:i=j
 ·subst e
  have hl:i<sh.length:=by have:=(List.getElem?_eq_some_iff.1 h1).1; simpa using this
  rw [List.getElem?_set_self hl] at h1
  rw [hb] at h2
  cases h1; cases h2
  exact hr hs
 ·rw [List.getElem?_set_ne e] at h1
  exact (h.rep j so' x h1 h2).step hs (fun b hb'=>hg.block b (h.lt b ⟨j,x,h2,hb'⟩) (fun e'=>e (h.disj i j _ x b hb h2 e'.symm hb')))
end
open Go.Sort in
/-- A row that is laid over a block's head. -/
theorem putRow_own {w:World} {g cap q:Nat} {cur:Array Value} {e:TypeId} {ys:List Int} (hg:w.heap[g]?=some (.cells cur e (0,0))) (hcap:cur.size=cap) (hn:ys.length≤cap) (os:Array Obj) :
  w.grownBy (grow (putRow (Value.int .i64) (Sort.ahead w q) g 0 ys.toArray) os) (some g) ∧
  ∃ cur',(grow (putRow (Value.int .i64) (Sort.ahead w q) g 0 ys.toArray) os).heap[g]?=some (.cells cur' e (0,0))∧cur'.size=cap∧cur'.toList.take ys.length=ys.map (Value.int .i64):=by
 have hlt:g<w.heap.size:=(Array.getElem?_eq_some_iff.1 hg).1
 have hold:∀ b,b<w.heap.size→(grow (putRow (Value.int .i64) (Sort.ahead w q) g 0 ys.toArray) os).heap[b]?=(w.heap.modify g (onCells (putCells (Value.int .i64) 0 ys.toArray)))[b]?:=by
  intro b hb
  simp only [grow,putRow,mapBlock,Sort.ahead]
  rw [Array.getElem?_append_left (by simpa using hb)]
 refine ⟨⟨rfl,rfl,rfl,by simp [grow,putRow,mapBlock,Sort.ahead],fun b hb hne=>?_⟩,?_⟩
 ·rw [hold b hb,Array.getElem?_modify]
  rw [if_neg (fun h=>hne (by rw [h]))]
 ·rw [hold g hlt,Array.getElem?_modify,if_pos rfl,hg]
  refine ⟨_,rfl,by simp [putCells,hcap],?_⟩
  apply List.ext_getElem?
  intro j
  rw [List.getElem?_take]
  simp only [putCells,Array.getElem?_toList,Array.getElem?_mapIdx,List.getElem?_map]
  split
  ·rename_i hj
   have hjc:j<cur.size:=by omega
   rw [Array.getElem?_eq_getElem hjc,List.getElem?_eq_getElem hj]
   simp [hj]
  ·rename_i hj
   rw [List.getElem?_eq_none (by omega)]
   rfl
theorem holds_own {w:World} {g cap:Nat} {cur:Array Value} {e:TypeId} {xs:List Int} (hg:w.heap[g]?=some (.cells cur e (0,0))) (_hcap:cur.size=cap) (_hn:xs.length≤cap) (ht:cur.toList.take xs.length=xs.map (Value.int .i64)) :
  Go.Sort.Holds (Value.int .i64) w g 0 xs.toArray:=by
 intro j hj
 simp only [List.size_toArray] at hj
 have h1:(cur.toList.take xs.length)[j]?=some (Value.int .i64 xs[j]):=by rw [ht,List.getElem?_map,List.getElem?_eq_getElem hj]; rfl
 rw [List.getElem?_take,if_pos hj,Array.getElem?_toList] at h1
 refine ⟨?_,?_⟩
 ·simp [World.cell?,hg,h1,hj]
 ·simp [World.frozen?,hg]
def sortI (xs:List Int):List Int:=xs.mergeSort fun x y=>decide (x≤y)
def sortT:SpecT AA:=fun args sh K=>match args with
 | [.vec i]=>match nth sh i with
  | some (.ivec e .i64 xs)=>xs.length<4611686018427387904∧K (.tup .nil) (setNth sh i (.ivec e .i64 (sortI xs)))
  | _=>False
 | [.val (.slice none 0 0)]=>K (.tup .nil) sh
 | _=>False
def compT:SpecT AA:=fun args sh K=>match args with
 | [.vec i]=>match nth sh i with
  | some (.ivec e .i64 xs)=>xs.length≤9223372036854775807∧K (.vec (cnt (setNth sh i .dead))) (snoc (setNth sh i .dead) (.ivec e .i64 (Lib.compact xs)))
  | _=>False
 | _=>False
theorem sortI_len (xs:List Int):(sortI xs).length=xs.length:=by simp [sortI]
theorem f54_has:Has prog 40 f40 (bodyOf f40):=⟨by kernel_rfl,by kernel_rfl,by kernel_rfl⟩
theorem f55_has:Has prog 41 f41 (bodyOf f41):=⟨by kernel_rfl,by kernel_rfl,by kernel_rfl⟩
theorem sort_none (w:World):Calls prog 40 #[.slice none 0 0] w fun e w'=>e = .returned (.tuple #[])∧w'=w:=Any.slices_Sort_int_none Tryz.lays189 none 0 w
open Go.Sort in
theorem sort_some (blk off cap:Nat) (zs:List Int) (w:World) (hH:Holds (Value.int .i64) w blk off zs.toArray) (hblk:blk<w.heap.size) (hsz:zs.length<4611686018427387904) :
  Calls prog 40 #[.slice (some ⟨blk,off,none⟩) zs.length cap] w fun e w'=>e = .returned (.tuple #[])∧∃ n os,w'=grow (putRow (Value.int .i64) (Sort.ahead w n) blk off (zs.mergeSort fun x y=>decide (x≤y)).toArray) os:=Any.slices_Sort_int Tryz.lays189 blk off cap zs w hH hblk hsz
theorem comp_none (w:World):Calls prog 41 #[.slice none 0 0] w fun e w'=>e = .returned (.slice none 0 0)∧w'=w:=Any.slices_Compact_int_empty Tryz.lays2_20 none 0 w
open Go.Sort in
theorem comp_some (blk off cap:Nat) (zs:List Int) (w:World) (hH:Holds (Value.int .i64) w blk off zs.toArray) (hsz:zs.length≤9223372036854775807) (hcap:zs.length≤cap) :
  Calls prog 41 #[.slice (some ⟨blk,off,none⟩) zs.length cap] w fun e w'=>e = .returned (.slice (some ⟨blk,off,none⟩) (Lib.compact zs).length cap)∧∃ q,w'=putRow (Value.int .i64) (Sort.ahead w q) blk off (Lib.compact zs++List.replicate (zs.length-(Lib.compact zs).length) 0).toArray:=Any.slices_Compact_int Tryz.lays2_20 blk off cap zs w hH hsz hcap
theorem callR_post {P:Program} {f:FuncId} {fn:Func} {c:Code} (hf:Has P f fn c) {vs:Array Value} {w:World} {R:Value→World→Prop} {R':Ending→World→Prop} (h:Calls P f vs w R') (hm:∀ e w',R' e w'→∃ v,e = .returned v∧R v w'):CallR P f vs w R:=by
 refine callR_of_calls hf.is hf.name hf.body (h.mono fun e w' he=>?_)
 obtain ⟨v,rfl,hv⟩:=hm e w' he
 exact hv
open Go.Sort in
theorem sort_known {P:Program} {n:FuncId} (hq:qfA n=false) {fn:Func} {c:Code} (f54_has:Has P n fn c)
  (sort_none:∀ w:World,Calls P n #[.slice none 0 0] w fun e w'=>e = .returned (.tuple #[])∧w'=w)
  (sort_some:∀ (blk off cap:Nat) (zs:List Int) (w:World) (_:Holds (Value.int .i64) w blk off zs.toArray) (_:blk<w.heap.size) (_:zs.length<4611686018427387904),
   Calls P n #[.slice (some ⟨blk,off,none⟩) zs.length cap] w fun e w'=>e = .returned (.tuple #[])∧∃ n os,w'=grow (putRow (Value.int .i64) (Sort.ahead w n) blk off (zs.mergeSort fun x y=>decide (x≤y)).toArray) os)
  {l:List (Nat×SpecT AA)} (k:Known P l):Known P ((n,sortT)::l):=by
 refine .add ?_ k
 rw [hq]
 intro args sh K hk O env w vs ha hh hg
 unfold sortT at hk
 split at hk
 ·rename_i i
  split at hk
  case h_2=>exact hk.elim
  rename_i e xs hi
  obtain ⟨hlen,hk⟩:=hk
  obtain ⟨u,us,rfl,h1,h2⟩:=ha
  have h3:us=[]:=h2
  subst h3
  obtain ⟨v,hb,hown⟩:=hh.ivec hi
  have hv:u=v:=slAt_some h1.inv_vec hb
  subst hv
  obtain ⟨hol,hown⟩:=hown
  rcases hown with ⟨rfl,hn⟩ | ⟨g,cap,cur,rfl,_,hg1,hg2,_,hg4,hg5⟩
  ·have hx:xs=[]:=List.eq_nil_of_length_eq_zero hn
   subst hx
   refine callR_post f54_has (sort_none w) ?_
   rintro e' w' ⟨rfl,rfl⟩
   refine ⟨_,rfl,?_⟩
   have hss:sortI []=[]:=by simp [sortI]
   rw [hss] at hk
   have:setNth sh i (.ivec e .i64 [])=sh:=by
    rw [setNth_eq]; rw [nth_eq] at hi
    obtain ⟨hl,he⟩:=List.getElem?_eq_some_iff.1 hi
    rw [← he]
    exact List.set_getElem_self hl
   rw [this] at hk
   exact ⟨_,sh,env,.tup [] .nil,hh,Step.refl _ _,fun h=>by simp at h,hk⟩
  ·simp only [Nat.mul_one] at hg4 hg5
   refine callR_post f54_has (sort_some g 0 cap xs w (holds_own hg1 hg4 hg2 hg5) (Array.getElem?_eq_some_iff.1 hg1).1 hlen) ?_
   rintro e' w' ⟨rfl,q,os,rfl⟩
   refine ⟨_,rfl,?_⟩
   obtain ⟨h4,cur',h5,h6,h7⟩:=putRow_own (q:=q) (ys:=sortI xs) hg1 hg4 (by rw [sortI_len]; exact hg2) os
   obtain ⟨h8,h9⟩:=vec_same hh hb (w':=Go.Sort.grow (Go.Sort.putRow (Value.int .i64) (Go.Sort.ahead w q) g 0 (sortI xs).toArray) os) h4 (.ivec e .i64 (sortI xs)) (fun _=>⟨by simp,.inr ⟨g,cap,cur',by rw [sortI_len],Nat.zero_le _,h5,by rw [sortI_len]; exact hg2,by assumption,by simpa using h6,by simpa using h7⟩⟩)
   exact ⟨_,_,env,.tup [] .nil,h8,h9,fun h=>by simp at h,hk⟩
 ·obtain ⟨u,us,rfl,h1,h2⟩:=ha
  have h3:us=[]:=h2
  subst h3
  rw [h1.inv_val]
  refine callR_post f54_has (sort_none w) ?_
  rintro e' w' ⟨rfl,rfl⟩
  refine ⟨_,rfl,?_⟩
  exact ⟨_,sh,env,.tup [] .nil,hh,Step.refl _ _,fun h=>by simp at h,hk⟩
 ·exact hk.elim
theorem compact_le (xs:List Int):(Lib.compact xs).length≤xs.length:=by
 unfold Lib.compact Lib.compactUpTo
 rw [List.length_map]
 exact Nat.le_trans (List.length_filter_le _ _) (by simp)
open Go.Sort in
theorem comp_known {P:Program} {n:FuncId} (hq:qfA n=false) {fn:Func} {c:Code} (f55_has:Has P n fn c)
  (comp_none:∀ w:World,Calls P n #[.slice none 0 0] w fun e w'=>e = .returned (.slice none 0 0)∧w'=w)
  (comp_some:∀ (blk off cap:Nat) (zs:List Int) (w:World) (_:Holds (Value.int .i64) w blk off zs.toArray) (_:zs.length≤9223372036854775807) (_:zs.length≤cap),
   Calls P n #[.slice (some ⟨blk,off,none⟩) zs.length cap] w fun e w'=>e = .returned (.slice (some ⟨blk,off,none⟩) (Lib.compact zs).length cap)∧∃ q,w'=putRow (Value.int .i64) (Sort.ahead w q) blk off (Lib.compact zs++List.replicate (zs.length-(Lib.compact zs).length) 0).toArray)
  {l:List (Nat×SpecT AA)} (k:Known P l):Known P ((n,compT)::l):=by
 refine .add ?_ k
 rw [hq]
 intro args sh K hk O env w vs ha hh hg
 unfold compT at hk
 split at hk
 ·rename_i i
  split at hk
  case h_2=>exact hk.elim
  rename_i e xs hi
  obtain ⟨hlen,hk⟩:=hk
  obtain ⟨u,us,rfl,h1,h2⟩:=ha
  have h3:us=[]:=h2
  subst h3
  obtain ⟨v,hb,hown⟩:=hh.ivec hi
  have hv:u=v:=slAt_some h1.inv_vec hb
  subst hv
  obtain ⟨hol,hown⟩:=hown
  rcases hown with ⟨rfl,hn⟩ | ⟨g,cap,cur,rfl,_,hg1,hg2,_,hg4,hg5⟩
  ·have hx:xs=[]:=List.eq_nil_of_length_eq_zero hn
   subst hx
   refine callR_post f55_has (comp_none w) ?_
   rintro e' w' ⟨rfl,rfl⟩
   refine ⟨_,rfl,?_⟩
   have hss:Lib.compact ([]:List Int)=[]:=rfl
   rw [hss] at hk
   obtain ⟨h4,h5,h6⟩:=vec_next hh hb (v' := .slice none 0 0) (w':=w') ⟨rfl,rfl,rfl,Nat.le_refl _,fun _ _ _=>rfl⟩ (.inl rfl) (fun b hb=>by cases hb) (.ivec e .i64 []) (fun _=>⟨by simp,.inl ⟨rfl,rfl⟩⟩)
   rw [snoc_eq] at hk
   exact ⟨_,_,_,h6,h4,h5,fun h=>by simp at h,hk⟩
  ·simp only [Nat.mul_one] at hg4 hg5
   refine callR_post f55_has (comp_some g 0 cap xs w (holds_own hg1 hg4 hg2 hg5) hlen hg2) ?_
   rintro e' w' ⟨rfl,q,hw'⟩
   refine ⟨_,rfl,?_⟩
   have hcl:=compact_le xs
   have hy:(Lib.compact xs++List.replicate (xs.length-(Lib.compact xs).length) 0).length=xs.length:=by simp; omega
   obtain ⟨h4,cur',h5,h6,h7⟩:=putRow_own (q:=q) (ys:=Lib.compact xs++List.replicate (xs.length-(Lib.compact xs).length) 0) hg1 hg4 (by rw [hy]; exact hg2) #[]
   rw [Go.Sort.grow_empty] at h4 h5
   rw [← hw'] at h4 h5
   obtain ⟨h8,h9,h10⟩:=vec_next hh hb (v' := .slice (some ⟨g,0,none⟩) (Lib.compact xs).length cap) (w':=w') h4 (.inl rfl) (fun b hb=>by cases hb; exact (Array.getElem?_eq_some_iff.1 h5).1) (.ivec e .i64 (Lib.compact xs))
    (fun _=>⟨by simp,.inr ⟨g,cap,cur',rfl,Nat.zero_le _,h5,by omega,by assumption,by simpa using h6,by
     simp only [Nat.mul_one]
     rw [hy] at h7
     have h11:(cur'.toList.take xs.length).take (Lib.compact xs).length=((Lib.compact xs++List.replicate (xs.length-(Lib.compact xs).length) 0).map (Value.int .i64)).take (Lib.compact xs).length:=by rw [h7]
     rw [List.take_take,Nat.min_eq_left hcl,List.map_append,List.take_append_of_le_length (by simp)] at h11
     rw [h11]
     exact List.take_of_length_le (by simp)⟩⟩)
   rw [snoc_eq] at hk
   exact ⟨_,_,_,h10,h8,h9,fun h=>by simp at h,hk⟩
 ·exact hk.elim
def L12:List (Nat×SpecT AA):=(41,compT)::(40,sortT)::L10
theorem known12:Known prog L12:=by
 unfold L12
 exact comp_known rfl f55_has comp_none comp_some (sort_known rfl f54_has sort_none sort_some known10)
end Go.Proofs.YthkffadomgcdaaaGreatDoor

/-! Contracts of what a condition's opening calls: what they say. Conditions: none. -/
namespace Go.Proofs.YthkffadomgcdaaaGreatDoor
open Go Go.Eng Go.Proofs.Tryz
noncomputable def E12:Eng AA:=EE prog L12
theorem E12_eq:E12=EE prog L12:=by
 unfold E12
 rfl
def gI (k:IntKind) (sh:List (SO AA)) (s:SV AA):Option (List Int):=match intsOfS sh s with
 | some (k',xs)=>if Go.Eng.kindOk k' k then some xs else none
 | none=>none
def cloneILS:LS AA where
 X:=List Int
 pre:=fun xs=>xs.length≤1000000
 args:=fun xs=>[.rints .i64 xs]
 hin:=fun _=>[]
 res:=fun _=>[.vec 0]
 hout:=fun xs=>[.ivec 3 .i64 xs]
def cloneIGet (args:List (SV AA)) (sh:List (SO AA)):Option (List Int):=match args with
 | [s]=>gI .i64 sh s
 | _=>none
def L13:List (Nat×SpecT AA):=(39,tLent cloneILS cloneIGet)::L12
noncomputable def E13:Eng AA:=EE prog L13
/-- The condition that all of some sign. -/
def allOf (ks:List Int):List Br:=[⟨Lib.compact (sortI ks),List.replicate 32 0,0,0⟩]
def allLS:LS AA where
 X:=List Int
 pre:=fun xs=>xs.length≤1000000
 args:=fun xs=>[.rints .i64 xs]
 hin:=fun _=>[]
 res:=fun ks=>[.agg (.cell (.rseq 66 (show List Br from allOf ks)) .nil)]
 hout:=fun _=>[]
def L14:List (Nat×SpecT AA):=(20,tLent allLS cloneIGet)::L13
noncomputable def E14:Eng AA:=EE prog L14
/-- Where a number is first, or -1. -/
def idxI (k:Int):List Int→Nat→Int
 | [],_ => -1
 | x::l,n=>if k=x then n else idxI k l (n+1)
def indexILS:LS AA where
 X:=List Int×Int
 pre:=fun _=>True
 args:=fun x=>[.rints .i64 x.1,.int .i64 x.2]
 hin:=fun _=>[]
 res:=fun x=>[.int .i64 (idxI x.2 x.1 0)]
 hout:=fun _=>[]
def indexIGet (args:List (SV AA)) (sh:List (SO AA)):Option (List Int×Int):=match args with
 | [s,k]=>match gI .i64 sh s,asI k with
  | some xs,some k=>some (xs,k)
  | _,_=>none
 | _=>none
def indexIAnn (x:List Int×Int):Anns AA:=fun _ _ _=>some {
 X:=Nat
 inv:=fun k=>k≤x.1.length∧x.1.length≤9223372036854775807∧idxI x.2 x.1 0=idxI x.2 (x.1.drop k) k
 meas:=fun k=>x.1.length-k
 slots:=fun k=>[(8,.int .i64 k)]
 heap:=fun _=>[] }
def L15:List (Nat×SpecT AA):=(138,tLent indexILS indexIGet)::L14
noncomputable def E15:Eng AA:=EE prog L15
def containsILS:LS AA where
 X:=List Int×Int
 pre:=fun _=>True
 args:=fun x=>[.rints .i64 x.1,.int .i64 x.2]
 hin:=fun _=>[]
 res:=fun x=>[.sb 0 (decide (x.2∈x.1))]
 hout:=fun _=>[]
def L16:List (Nat×SpecT AA):=(121,tLent containsILS indexIGet)::L15
noncomputable def E16:Eng AA:=EE prog L16
/-- What a spend shows. -/
structure Sn where
 signed:List Int
 secret:List Int
 height:Int
 age:Int
def snSL (s:Sn):SL AA := .cell (.rints .i64 s.signed) (.cell (.rints .u8 s.secret) (.cell (.int .i64 s.height) (.cell (.int .i64 s.age) .nil)))
def decSn (sh:List (SO AA)):SL AA→Option Sn
 | .cell a (.cell b (.cell c (.cell d .nil)))=>match gI .i64 sh a,gI .u8 sh b,asI c,asI d with
  | some x,some y,some z,some u=>some ⟨x,y,z,u⟩
  | _,_,_,_=>none
 | _=>none
def missLS:LS AA where
 X:=Sn×Int
 pre:=fun _=>True
 args:=fun x=>[.int .i64 x.2,.ptr 0 0]
 hin:=fun x=>[.cells 190 (snSL x.1)]
 res:=fun x=>[.sb 0 (!decide (x.2∈x.1.signed))]
 hout:=fun x=>[.cells 190 (snSL x.1)]
def snAt (sh:List (SO AA)):SV AA→Option Sn
 | .ptr i 0=>match nth sh i with
  | some (.cells _ cs)=>decSn sh (rslL sh cs)
  | _=>none
 | _=>none
def missGet (args:List (SV AA)) (sh:List (SO AA)):Option (Sn×Int):=match args with
 | [k,p]=>match asI k,snAt sh p with
  | some k,some s=>some (s,k)
  | _,_=>none
 | _=>none
def L17:List (Nat×SpecT AA):=(120,tLent missLS missGet)::L16
noncomputable def E17:Eng AA:=EE prog L17
/-- Where the first key is that nobody signed, or -1. -/
def missIdx (signed:List Int):List Int→Nat→Int
 | [],_ => -1
 | x::l,n=>if x∈signed then missIdx signed l (n+1) else n
def indexFLS:LS AA where
 X:=Sn×List Int
 pre:=fun _=>True
 args:=fun x=>[.rints .i64 x.2,.fn (.func 120) .nil (.cell (.ptr 0 0) .nil)]
 hin:=fun x=>[.cells 190 (snSL x.1)]
 res:=fun x=>[.int .i64 (missIdx x.1.signed x.2 0)]
 hout:=fun x=>[.cells 190 (snSL x.1)]
def indexFGet (args:List (SV AA)) (sh:List (SO AA)):Option (Sn×List Int):=match args with
 | [k,.fn (.func _) .nil (.cell p .nil)]=>match gI .i64 sh k,snAt sh p with
  | some k,some s=>some (s,k)
  | _,_=>none
 | _=>none
def indexFAnn (x:Sn×List Int):Anns AA:=fun _ _ _=>some {
 X:=Nat
 inv:=fun k=>k≤x.2.length∧x.2.length≤9223372036854775807∧missIdx x.1.signed x.2 0=missIdx x.1.signed (x.2.drop k) k
 meas:=fun k=>x.2.length-k
 slots:=fun k=>[(8,.int .i64 k)]
 heap:=fun _=>[] }
def L18:List (Nat×SpecT AA):=(139,tLent indexFLS indexFGet)::L17
noncomputable def E18:Eng AA:=EE prog L18
def anyFLS:LS AA where
 X:=Sn×List Int
 pre:=fun _=>True
 args:=fun x=>[.rints .i64 x.2,.fn (.func 120) .nil (.cell (.ptr 0 0) .nil)]
 hin:=fun x=>[.cells 190 (snSL x.1)]
 res:=fun x=>[.sb 0 (decide (missIdx x.1.signed x.2 0≥0))]
 hout:=fun x=>[.cells 190 (snSL x.1)]
def L19:List (Nat×SpecT AA):=(122,tLent anyFLS indexFGet)::L18
noncomputable def E19:Eng AA:=EE prog L19
end Go.Proofs.YthkffadomgcdaaaGreatDoor

/-! Contracts of what a condition's opening calls: they hold. Conditions: none. -/
namespace Go.Proofs.YthkffadomgcdaaaGreatDoor
open Go Go.Eng Go.Proofs.Tryz
def cloneIVC:Prop:=∀ (x:List Int),
 x.length.le (1000000:Nat) →
  ∀ (b:Bool),
   (x≠[]→b=false) →
    (b=true →
      (SV.val (Value.slice none (0:Nat) (0:Nat)):SV AA)=SV.val (Value.slice none (0:Nat) (0:Nat)) ∧
       True∧x=[]∧True) ∧
     (b=false →
      (([]:List Int).length+x.length)*(8:Nat)≤(140737488355328:Nat) ∧
       ([]:List Int).length+x.length≤(1152921504606846976:Nat)∧True∧True∧x=[]++x∧True)
theorem cloneI_eq:cloneIVC=fnS E12 f39 (bodyOf f39) cloneILS noAnn:=by kernel_rfl
theorem cloneI_vc:cloneIVC:=by
 intro x hx b hb
 have hx:x.length≤1000000:=hx
 refine ⟨fun h=>⟨rfl,trivial,?_,trivial⟩,fun _=>⟨by simp; omega,by simp; omega,trivial,trivial,rfl,trivial⟩⟩
 by_cases e:x=[]
 ·exact e
 ·rw [hb e] at h; cases h
theorem cloneI_ok:Fits E12 f39 (bodyOf f39) cloneILS noAnn:=by
 constructor
 rw [← cloneI_eq]
 exact cloneI_vc
theorem f53_has:Has prog 39 f39 (bodyOf f39):=⟨by kernel_rfl,by kernel_rfl,by kernel_rfl⟩
theorem known13:Known prog L13:=by
 unfold L13
 exact known12.lent mixed f53_has E12_eq cloneI_ok (fun _ _=>Nat.zero_le _) (fun _ _=>rfl)
theorem E13_eq:E13=EE prog L13:=by
 unfold E13
 rfl
def allVC:Prop:=∀ (x:List Int),
 x.length.le (1000000:Nat) →
  x=x ∧
   True ∧
    x.length.le (1000000:Nat) ∧
     x.length<(4611686018427387904:Nat) ∧
      (sortI x).length≤(9223372036854775807:Nat) ∧
       (Lib.compact (sortI x)=Lib.compact (sortI x) ∧
         List.replicate (32:Nat) (0:Int)=List.replicate (32:Nat) (0:Int) ∧
          (0:Int)=(0:Int)∧(0:Int)=(0:Int)∧True) ∧
        (Proofs.YthkffadomgcdaaaGreatDoor.allOf x=[Br.mk (Lib.compact (sortI x)) (List.replicate (32:Nat) (0:Int)) (0:Int) (0:Int)] ∧
          True) ∧
         True∧True
theorem all_eq:allVC=fnS E13 f20 (bodyOf f20) allLS noAnn:=by kernel_rfl
theorem all_vc:allVC:=by
 intro x hx
 have hx:x.length≤1000000:=hx
 exact ⟨rfl,trivial,hx,by omega,by rw [sortI_len]; omega,⟨rfl,rfl,rfl,rfl,trivial⟩,⟨rfl,trivial⟩,trivial,trivial⟩
theorem all_ok:Fits E13 f20 (bodyOf f20) allLS noAnn:=by
 constructor
 rw [← all_eq]
 exact all_vc
theorem f24_has:Has prog 20 f20 (bodyOf f20):=⟨by kernel_rfl,by kernel_rfl,by kernel_rfl⟩
theorem known14:Known prog L14:=by
 unfold L14
 exact known13.lent mixed f24_has E13_eq all_ok (fun _ _=>Nat.zero_le _) (fun _ _=>rfl)
theorem idxI_step {k x:Int} {l:List Int} {n:Nat} (h:k≠x):idxI k (x::l) n=idxI k l (n+1):=by simp [idxI,h]
theorem drop_at {xs:List Int} {j:Nat} (h:j<xs.length):xs.drop j=xs.getD j 0::xs.drop (j+1):=by
 rw [List.drop_eq_getElem_cons h]
 simp [h]
theorem E14_eq:E14=EE prog L14:=by
 unfold E14
 rfl
def indexIVC:Prop:=∀ (x:List Int×Int),
 True →
  (x.fst.length:Int)≤(9223372036854775807:Int) →
   (∃ x_1,
     (x_1≤x.fst.length ∧
       x.fst.length≤(9223372036854775807:Nat) ∧
        idxI x.snd x.fst (0:Nat)=idxI x.snd (List.drop x_1 x.fst) x_1) ∧
      (x_1:Int)=(0:Int)∧True∧True) ∧
    ∀ (x_1:Nat),
     x_1≤x.fst.length ∧
       x.fst.length≤(9223372036854775807:Nat) ∧
        idxI x.snd x.fst (0:Nat)=idxI x.snd (List.drop x_1 x.fst) x_1 →
      (decide ((x_1:Int)<(x.fst.length:Int))=true →
        (0:Int)≤(x_1:Int) ∧
         (x_1:Int)<(x.fst.length:Int) ∧
          (x_1:Int).toNat<x.fst.length ∧
           ((x.snd==x.fst.getD (x_1:Int).toNat (0:Int))=true →
             idxI x.snd x.fst (0:Nat)=(x_1:Int)∧True∧True) ∧
            ((x.snd==x.fst.getD (x_1:Int).toNat (0:Int))=false →
             inI64 ((x_1:Int)+(1:Int)) ∧
              ∃ y,
               (y≤x.fst.length ∧
                 x.fst.length≤(9223372036854775807:Nat) ∧
                  idxI x.snd x.fst (0:Nat)=idxI x.snd (List.drop y x.fst) y) ∧
                x.fst.length-y<x.fst.length-x_1 ∧
                 (y:Int)=(x_1:Int)+(1:Int)∧True∧True)) ∧
       (decide ((x_1:Int)<(x.fst.length:Int))=false →
        idxI x.snd x.fst (0:Nat)=(-1:Int)∧True∧True)
theorem indexI_eq:indexIVC=fnS E14 f138 (bodyOf f138) indexILS indexIAnn:=by kernel_rfl
theorem indexI_vc:indexIVC:=by
 rintro ⟨xs,k⟩ _ hl
 simp only at hl ⊢
 refine ⟨⟨0,⟨Nat.zero_le _,by omega,rfl⟩,rfl,trivial,trivial⟩,?_⟩
 rintro j ⟨hj,hl2,hf⟩
 refine ⟨fun h1=>?_,fun h1=>⟨?_,trivial,trivial⟩⟩
 ·simp only [decide_eq_true_eq] at h1
  have hlt:j<xs.length:=by omega
  simp only [Int.toNat_natCast]
  refine ⟨by omega,h1,hlt,fun h2=>⟨?_,trivial,trivial⟩,fun h2=>⟨by unfold inI64; omega,j+1,⟨by omega,hl2,?_⟩,by omega,by omega,trivial,trivial⟩⟩
  ·rw [hf,drop_at hlt]
   have h2:k=xs.getD j 0:=by simpa using h2
   simp only [idxI,if_pos h2]
  ·rw [hf,drop_at hlt,idxI_step (by simpa using h2)]
 ·simp only [decide_eq_false_iff_not] at h1
  rw [hf,List.drop_of_length_le (by omega)]
  rfl
theorem indexI_ok:Fits E14 f138 (bodyOf f138) indexILS indexIAnn:=by
 constructor
 rw [← indexI_eq]
 exact indexI_vc
theorem f87_has:Has prog 138 f138 (bodyOf f138):=⟨by kernel_rfl,by kernel_rfl,by kernel_rfl⟩
theorem known15:Known prog L15:=by
 unfold L15
 exact known14.lent mixed f87_has E14_eq indexI_ok (fun _ _=>Nat.zero_le _) (fun _ _=>rfl)
theorem idxI_ge (k:Int):∀ (l:List Int) (n:Nat),idxI k l n≥0↔k∈l
 | [],n=>by simp [idxI]
 | x::l,n=>by
  by_cases e:k=x
  ·simp [idxI,e]
  ·simp only [idxI,List.mem_cons,e,false_or]
   exact idxI_ge k l (n+1)
theorem E15_eq:E15=EE prog L15:=by
 unfold E15
 rfl
def containsIVC:Prop:=∀ (x:List Int×Int),
 True →
  (x.fst=x.fst∧x.snd=x.snd) ∧
   True∧True∧decide (x.snd∈x.fst)=decide (idxI x.snd x.fst (0:Nat)≥(0:Int))∧True∧True
theorem containsI_eq:containsIVC=fnS E15 f121 (bodyOf f121) containsILS noAnn:=by kernel_rfl
theorem containsI_vc:containsIVC:=by
 intro x _
 refine ⟨⟨rfl,rfl⟩,trivial,trivial,?_,trivial,trivial⟩
 exact decide_eq_decide.2 (idxI_ge _ _ _).symm
theorem containsI_ok:Fits E15 f121 (bodyOf f121) containsILS noAnn:=by
 constructor
 rw [← containsI_eq]
 exact containsI_vc
theorem f47_has:Has prog 121 f121 (bodyOf f121):=⟨by kernel_rfl,by kernel_rfl,by kernel_rfl⟩
theorem known16:Known prog L16:=by
 unfold L16
 exact known15.lent mixed f47_has E15_eq containsI_ok (fun _ _=>Nat.zero_le _) (fun _ _=>rfl)
theorem E16_eq:E16=EE prog L16:=by
 unfold E16
 rfl
def missVC:Prop:=∀ (x:Sn×Int),
 True →
  (x.fst.signed=x.fst.signed∧x.snd=x.snd) ∧
   True ∧
    True ∧
     (!decide (x.snd∈x.fst.signed))=!decide (x.snd∈x.fst.signed) ∧
      ((x.fst.signed=x.fst.signed∧x.fst.secret=x.fst.secret∧x.fst.height=x.fst.height∧x.fst.age=x.fst.age∧True) ∧
        True) ∧
       True
theorem miss_eq:missVC=fnS E16 f120 (bodyOf f120) missLS noAnn:=by kernel_rfl
theorem miss_vc:missVC:=by
 intro x _
 exact ⟨⟨rfl,rfl⟩,trivial,trivial,rfl,⟨⟨rfl,rfl,rfl,rfl,trivial⟩,trivial⟩,trivial⟩
theorem miss_ok:Fits E16 f120 (bodyOf f120) missLS noAnn:=by
 constructor
 rw [← miss_eq]
 exact miss_vc
theorem f46_has:Has prog 120 f120 (bodyOf f120):=⟨by kernel_rfl,by kernel_rfl,by kernel_rfl⟩
theorem known17:Known prog L17:=by
 unfold L17
 exact known16.lent mixed f46_has E16_eq miss_ok (fun _ _=>Nat.le_refl _) (fun h=>by cases h)
theorem E17_eq:E17=EE prog L17:=by
 unfold E17
 rfl
def indexFVC:Prop:=∀ (x:Sn×List Int),
 True →
  (x.snd.length:Int)≤(9223372036854775807:Int) →
   (∃ x_1,
     (x_1≤x.snd.length ∧
       x.snd.length≤(9223372036854775807:Nat) ∧
        missIdx x.fst.signed x.snd (0:Nat)=missIdx x.fst.signed (List.drop x_1 x.snd) x_1) ∧
      (x_1:Int)=(0:Int) ∧
       ((x.fst.signed=x.fst.signed∧x.fst.secret=x.fst.secret∧x.fst.height=x.fst.height∧x.fst.age=x.fst.age∧True) ∧
         True) ∧
        True) ∧
    ∀ (x_1:Nat),
     x_1≤x.snd.length ∧
       x.snd.length≤(9223372036854775807:Nat) ∧
        missIdx x.fst.signed x.snd (0:Nat)=missIdx x.fst.signed (List.drop x_1 x.snd) x_1 →
      (decide ((x_1:Int)<(x.snd.length:Int))=true →
        (0:Int)≤(x_1:Int) ∧
         (x_1:Int)<(x.snd.length:Int) ∧
          (x_1:Int).toNat<x.snd.length ∧
           (x.snd.getD (x_1:Int).toNat (0:Int)=x.snd.getD (x_1:Int).toNat (0:Int)∧True) ∧
            ((x.fst.signed=x.fst.signed∧x.fst.secret=x.fst.secret∧x.fst.height=x.fst.height∧x.fst.age=x.fst.age∧True) ∧
              True) ∧
             True ∧
              ((!decide (x.snd.getD (x_1:Int).toNat (0:Int)∈x.fst.signed))=true →
                missIdx x.fst.signed x.snd (0:Nat)=(x_1:Int) ∧
                 ((x.fst.signed=x.fst.signed∧x.fst.secret=x.fst.secret∧x.fst.height=x.fst.height∧x.fst.age=x.fst.age∧True) ∧
                   True) ∧
                  True) ∧
               ((!decide (x.snd.getD (x_1:Int).toNat (0:Int)∈x.fst.signed))=false →
                inI64 ((x_1:Int)+(1:Int)) ∧
                 ∃ y,
                  (y≤x.snd.length ∧
                    x.snd.length≤(9223372036854775807:Nat) ∧
                     missIdx x.fst.signed x.snd (0:Nat) =
                      missIdx x.fst.signed (List.drop y x.snd) y) ∧
                   x.snd.length-y<x.snd.length-x_1 ∧
                    (y:Int)=(x_1:Int)+(1:Int) ∧
                     ((x.fst.signed=x.fst.signed∧x.fst.secret=x.fst.secret∧x.fst.height=x.fst.height∧x.fst.age=x.fst.age∧True) ∧
                       True) ∧
                      True)) ∧
       (decide ((x_1:Int)<(x.snd.length:Int))=false →
        missIdx x.fst.signed x.snd (0:Nat)=(-1:Int) ∧
         ((x.fst.signed=x.fst.signed∧x.fst.secret=x.fst.secret∧x.fst.height=x.fst.height∧x.fst.age=x.fst.age∧True) ∧
           True) ∧
          True)
theorem indexF_eq:indexFVC=fnS E17 f139 (bodyOf f139) indexFLS indexFAnn:=by kernel_rfl
theorem indexF_vc:indexFVC:=by
 rintro ⟨s,xs⟩ _ hl
 simp only [and_true,true_and] at hl ⊢
 refine ⟨⟨0,⟨Nat.zero_le _,by omega,rfl⟩,rfl⟩,?_⟩
 rintro j ⟨hj,hl2,hf⟩
 refine ⟨fun h1=>?_,fun h1=>?_⟩
 ·simp only [decide_eq_true_eq] at h1
  have hlt:j<xs.length:=by omega
  simp only [Int.toNat_natCast]
  refine ⟨by omega,h1,hlt,fun h2=>?_,fun h2=>⟨by unfold inI64; omega,j+1,⟨by omega,hl2,?_⟩,by omega,by omega⟩⟩
  ·rw [hf,drop_at hlt]
   have h2:¬xs.getD j 0∈s.signed:=by simpa using h2
   simp only [missIdx,if_neg h2]
  ·rw [hf,drop_at hlt]
   have h2:xs.getD j 0∈s.signed:=by simpa using h2
   simp only [missIdx,if_pos h2]
 ·simp only [decide_eq_false_iff_not] at h1
  rw [hf,List.drop_of_length_le (by omega)]
  rfl
theorem indexF_ok:Fits E17 f139 (bodyOf f139) indexFLS indexFAnn:=by
 constructor
 rw [← indexF_eq]
 exact indexF_vc
theorem f88_has:Has prog 139 f139 (bodyOf f139):=⟨by kernel_rfl,by kernel_rfl,by kernel_rfl⟩
theorem known18:Known prog L18:=by
 unfold L18
 exact known17.lent mixed f88_has E17_eq indexF_ok (fun _ _=>Nat.le_refl _) (fun h=>by cases h)
theorem E18_eq:E18=EE prog L18:=by
 unfold E18
 rfl
def anyFVC:Prop:=∀ (x:Sn×List Int),
 True →
  (x.snd=x.snd∧Fn.func (120:FuncId)=Fn.func (120:FuncId)∧True∧True∧True) ∧
   ((x.fst.signed=x.fst.signed∧x.fst.secret=x.fst.secret∧x.fst.height=x.fst.height∧x.fst.age=x.fst.age∧True) ∧
     True) ∧
    True ∧
     decide (missIdx x.fst.signed x.snd (0:Nat)≥(0:Int)) =
       decide (missIdx x.fst.signed x.snd (0:Nat)≥(0:Int)) ∧
      ((x.fst.signed=x.fst.signed∧x.fst.secret=x.fst.secret∧x.fst.height=x.fst.height∧x.fst.age=x.fst.age∧True) ∧
        True) ∧
       True
theorem anyF_eq:anyFVC=fnS E18 f122 (bodyOf f122) anyFLS noAnn:=by kernel_rfl
theorem anyF_vc:anyFVC:=by
 intro x _
 exact ⟨⟨rfl,rfl,trivial,trivial,trivial⟩,⟨⟨rfl,rfl,rfl,rfl,trivial⟩,trivial⟩,trivial,rfl,⟨⟨rfl,rfl,rfl,rfl,trivial⟩,trivial⟩,trivial⟩
theorem anyF_ok:Fits E18 f122 (bodyOf f122) anyFLS noAnn:=by
 constructor
 rw [← anyF_eq]
 exact anyF_vc
theorem f48_has:Has prog 122 f122 (bodyOf f122):=⟨by kernel_rfl,by kernel_rfl,by kernel_rfl⟩
theorem known19:Known prog L19:=by
 unfold L19
 exact known18.lent mixed f48_has E18_eq anyF_ok (fun _ _=>Nat.le_refl _) (fun h=>by cases h)
end Go.Proofs.YthkffadomgcdaaaGreatDoor

/-! A condition's opening, and the first law: what they say. Conditions: none. -/
namespace Go.Proofs.YthkffadomgcdaaaGreatDoor
open Go Go.Eng Go.Proofs.Tryz
theorem E19_eq:E19=EE prog L19:=by
 unfold E19
 rfl
/-- A check's answer, by its number. -/
noncomputable def checkN (bs:List Br):Int:=cond (fineB bs) 0 1
noncomputable def checkELS:LS AA where
 X:=List Br
 pre:=fun _=>True
 args:=fun bs=>[.agg (.cell (.rseq 66 bs) .nil)]
 hin:=fun _=>[]
 res:=fun bs=>[.err 111 (checkN bs)]
 hout:=fun _=>[]
def condG (t:Nat) (sh:List (SO AA)):SV AA→Option (List (AA t))
 | .agg (.cell s .nil)=>seqOfS t sh s
 | _=>none
def checkEGet (args:List (SV AA)) (sh:List (SO AA)):Option (List Br):=match args with
 | [c]=>condG 66 sh c
 | _=>none
def L19c:List (Nat×SpecT AA):=(102,tLent checkELS checkEGet)::L19
noncomputable def E19c:Eng AA:=EE prog L19c
def zeros32:List Int:=List.replicate 32 0
/-- An opening's answer, by its number. -/
noncomputable def opensN (H:List Int→List Int) (bs:List Br) (br:Int) (s:Sn):Int:=
 cond (fineB bs) (if br<0∨(bs.length:Int)≤br then 4 else match bs[br.toNat]? with
  | none=>4
  | some b=>if missIdx s.signed b.keys 0≥0 then 21 else if b.lock≠zeros32∧b.lock≠H s.secret then 22 else if s.height<b.after∨s.age<b.older then 23 else 0) 1
def opensGet (args:List (SV AA)) (sh:List (SO AA)):Option (List Br×Int×Sn):=match args with
 | [c,b,.agg s]=>match condG 66 sh c,asI b,decSn sh s with
  | some bs,some b,some s=>some (bs,b,s)
  | _,_,_=>none
 | _=>none
def sureLS:LS AA where
 X:=Unit
 pre:=fun _=>True
 args:=fun _=>[]
 hin:=fun _=>[]
 res:=fun _=>[.bl true]
 hout:=fun _=>[]
def sureGet (args:List (SV AA)) (_:List (SO AA)):Option Unit:=match args with
 | []=>some ()
 | _=>none
end Go.Proofs.YthkffadomgcdaaaGreatDoor

/-! A condition's opening, and the first law: they hold. Conditions: none. -/
namespace Go.Proofs.YthkffadomgcdaaaGreatDoor
open Go Go.Eng Go.Proofs.Tryz
theorem checkN_zero {bs:List Br}:checkN bs=0↔fineB bs=true:=by
 unfold checkN
 cases fineB bs<;>simp
theorem checkN_fine {bs:List Br} (h:fineB bs=true):checkN bs=0:=checkN_zero.2 h
theorem checkN_not {bs:List Br} (h:¬Fine bs):checkN bs=1:=by
 have:fineB bs=false:=fineB_not.2 h
 simp [checkN,this]
def checkEVC:Prop:=∀ (x:List Br),
 True →
  (x.length:Int)≤(9223372036854775807:Int) →
   (decide ((x.length:Int)<(1:Int))=true→(checkN x=(1:Int)∧(1:Int)≠(0:Int))∧True∧True) ∧
    (decide ((x.length:Int)<(1:Int))=false →
     (x.length:Int)≤(9223372036854775807:Int) →
      (decide ((x.length:Int)>(8:Int))=true →
        (checkN x=(1:Int)∧(1:Int)≠(0:Int))∧True∧True) ∧
       (decide ((x.length:Int)>(8:Int))=false →
        True ∧
         (decide (firstOdd x (0:Nat)≥(0:Int))=true →
           (checkN x=(1:Int)∧(1:Int)≠(0:Int))∧True∧True) ∧
          (decide (firstOdd x (0:Nat)≥(0:Int))=false→checkN x=(0:Int)∧True∧True)))
theorem checkE_eq:checkEVC=fnS E19 f102 (bodyOf f102) checkELS noAnn:=by kernel_rfl
theorem checkE_vc:checkEVC:=by
 intro bs _ hl
 refine ⟨fun h1=>⟨⟨checkN_not fun hf=>?_,by decide⟩,trivial,trivial⟩,fun h1 _=>⟨fun h2=>⟨⟨checkN_not fun hf=>?_,by decide⟩,trivial,trivial⟩,fun h2=>⟨trivial,fun h3=>⟨⟨checkN_not fun hf=>?_,by decide⟩,trivial,trivial⟩,fun h3=>⟨checkN_fine (fineB_iff.2 ?_),trivial,trivial⟩⟩⟩⟩
 all_goals simp only [decide_eq_true_eq,decide_eq_false_iff_not] at *
 ·have:=hf.1; omega
 ·have:=hf.2.1; omega
 ·have:=hf.2.2; omega
 ·exact ⟨by omega,by omega,by omega⟩
theorem checkE_ok:Fits E19 f102 (bodyOf f102) checkELS noAnn:=by
 constructor
 rw [← checkE_eq]
 exact checkE_vc
theorem f16_has:Has prog 102 f102 (bodyOf f102):=⟨by kernel_rfl,by kernel_rfl,by kernel_rfl⟩
theorem known19c:Known prog L19c:=by
 unfold L19c
 exact known19.lent mixed f16_has E19_eq checkE_ok (fun _ _=>Nat.le_refl _) (fun _ _=>rfl)
theorem E19c_eq:E19c=EE prog L19c:=by
 unfold E19c
 rfl
theorem opensN_fine {H:List Int→List Int} {bs:List Br} {br:Int} {s:Sn} (h:fineB bs=true):opensN H bs br s=if br<0∨(bs.length:Int)≤br then 4 else match bs[br.toNat]? with
  | none=>4
  | some b=>if missIdx s.signed b.keys 0≥0 then 21 else if b.lock≠zeros32∧b.lock≠H s.secret then 22 else if s.height<b.after∨s.age<b.older then 23 else 0:=by
 unfold opensN
 rw [h]
 rfl
theorem opensN_not {H:List Int→List Int} {bs:List Br} {br:Int} {s:Sn} (h:fineB bs=false):opensN H bs br s=1:=by
 unfold opensN
 rw [h]
 rfl
theorem f19_has:Has prog 89 f89 (bodyOf f89):=⟨by kernel_rfl,by kernel_rfl,by kernel_rfl⟩
end Go.Proofs.YthkffadomgcdaaaGreatDoor

/-! From a row's reading of an argument to the engine's words. Conditions: none. -/
namespace Go.Eng
open Go
variable {A:Nat→Type}
def NoO:Nat→Prop:=fun _=>False
section
variable {H:Type} (enc:TypeId×Value→H) (P:Program) (w:World) (sp:Nat→Bool) (held:Bool) (C:Enc A)
/-- What is read at a type stands for these cells. -/
def RdT (t:TypeId) (F:SL A→DataW H→Prop):Prop:=
 ∀ fuel cs d ps,DataW.trod enc P w 0 sp held fuel t cs=some (d,ps)→∃ sl,RepL NoO [] w C sl cs∧F sl d
end
theorem mapM_some {α β:Type} {f:α→Option β}:∀ {l:List α} {ys:List β},l.mapM f=some ys→ys.length=l.length∧∀ (i:Nat) x,l[i]?=some x→∃ y,ys[i]?=some y∧f x=some y
 | [],ys,h=>by simp at h; subst h; exact ⟨rfl,fun i x h=>by simp at h⟩
 | a::l,ys,h=>by
  rw [List.mapM_cons] at h
  cases hf:f a with
  | none=>rw [hf] at h; simp at h
  | some b=>
   cases hl:l.mapM f with
   | none=>rw [hf,hl] at h; simp at h
   | some bs=>
    rw [hf,hl] at h
    simp at h
    subst h
    obtain ⟨h1,h2⟩:=mapM_some hl
    refine ⟨by simp [h1],fun i x hx=>?_⟩
    cases i with
    | zero=>simp at hx; subst hx; exact ⟨b,rfl,hf⟩
    | succ i=>exact h2 i x (by simpa using hx)
section
variable {H:Type} {enc:TypeId×Value→H} {P:Program} {w:World} {sp:Nat→Bool} {held:Bool} {C:Enc A}
theorem notOwned (b:Nat):¬owned [] b:=fun ⟨i,x,h,_⟩=>by simp at h
theorem rd_int {t:TypeId} {k:IntKind} (ht:P.underlying t=some (.int k)):RdT enc P w sp held C t fun sl _=>∃ n,sl = .cell (.int k n) .nil∧(Lit.int k n).wf=true:=by
 intro fuel cs d ps h
 cases fuel with
 | zero=>simp [DataW.trod] at h
 | succ fuel=>
  unfold DataW.trod at h
  rw [ht] at h
  split at h
  all_goals first | (rename_i e _; cases e; done) | skip
  all_goals first | (rename_i e; cases e; done) | skip
  all_goals first | (cases h; done) | skip
  rename_i k' n e
  cases e
  split at h
  ·rename_i hc
   obtain ⟨rfl,hw⟩:=hc
   exact ⟨_,.cell .int .nil,n,rfl,hw⟩
  ·cases h
end
end Go.Eng

/-! From a contract to what a row asks. Conditions: none. -/
namespace Go.Eng
open Go Go.ChangeShapes Go.WideShapes Go.RowKit
variable {A:Nat→Type}
theorem below_of_step {env':List Wit} {w w':World} (h:Step [] w env' w'):Below w.heap.size w w':=
 ⟨h.os,h.tape,h.output,h.size,fun b hb=>h.cells b hb (notOwned b)⟩
section
variable {H:Type} {enc:TypeId×Value→H} {P:Program}
theorem trodAll_stays (hl:laidOutB P=true) {W W':World} (hb:Below W.heap.size W W'):∀ {ts:List TypeId} {vs:List Value} {ds:List (DataW H)} {ps:List MemPlace},
  (∀ t∈ts,P.readableRec t=true∧t<P.types.size)→(∀ x∈ps,x.block<W.heap.size)→DataW.TrodAll enc P W 0 (fun _=>true) true ts vs ds ps→∀ sp:Nat→Bool,(∀ p∈ps,sp p.block=true)→DataW.TrodAll enc P W' 0 sp true ts vs ds ps
 | [],vs,ds,ps,_,_,h,_,_=>by
  obtain ⟨rfl,rfl,rfl⟩:=trodAll_nil h
  exact rfl
 | t::ts,vs,ds,ps,hr,hlt,h,sp,hsp=>by
  obtain ⟨v,vs1,d,ds1,p,q,rfl,rfl,rfl,h1,h2⟩:=trodAll_cons h
  have hp:∀ x∈p,x.block<W.heap.size:=fun x hx=>hlt x (List.mem_append_left _ hx)
  exact ⟨p,q,WideElems.Trod_stays hl (hr t List.mem_cons_self).1 (hr t List.mem_cons_self).2 h1 (fun x hx=>hb.same (hp x hx)) (fun x hx=>hsp x (List.mem_append_left _ hx)),
   trodAll_stays hl hb (fun t' ht'=>hr t' (List.mem_cons_of_mem _ ht')) (fun x hx=>hlt x (List.mem_append_right _ hx)) h2 sp (fun x hx=>hsp x (List.mem_append_right _ hx)),rfl⟩
/-- What a law's row asks of a call that answers true and leaves what was there. -/
theorem law_post {f:Func} {s:ChangeSpec} {W W':World} {args:Array Value} {ds gs:List (DataW H)} {before:List MemPlace} {tb:TypeId}
  (hl:laidOutB P=true) (hread:∀ t∈f.params.toList,P.readableRec t=true∧t<P.types.size) (hrt:f.resultTypes=#[tb]) (htb:P.underlying tb=some .bool)
  (hW:DataW.Whole enc P f.params.toList s.vars false W args.toList ds gs before) (hvars:s.vars=[]) (hfn:s.fn H (ds++gs)={ results:=[.lit (.bool true)],args:=ds })
  (hb:Below W.heap.size W W'):s.post enc P f false true false false W args (.bool true) W':=by
 have hlt:∀ p∈before,p.block<W.heap.size:=fun p hp=>by simpa using hW.lt p hp
 have hW0:=hW
 obtain ⟨p,q,hA,hV,rfl,hz,hn⟩:=hW0
 have hq:q=[]:=by
  rw [hvars] at hV
  cases gs with
  | nil=>exact hV
  | cons g r=>exact hV.elim
 subst hq
 have hres:∀ (b:Nat) (sp:Nat→Bool) (hd:Bool),DataW.TrodAll enc P W' b sp hd f.resultTypes.toList ((Value.bool true).resultList f.resultTypes.size) (s.fn H (ds++gs)).results []:=fun b sp hd=>by
  rw [hfn,hrt]
  exact trodAll_mk1 (shut_bool htb true)
 have hargs:∀ sp:Nat→Bool,(∀ x∈p,sp x.block=true)→DataW.TrodAll enc P W' 0 sp true f.params.toList args.toList (s.fn H (ds++gs)).args p:=fun sp hsp=>by
  rw [hfn]
  exact trodAll_stays hl hb hread (fun x hx=>hlt x (by simpa using hx)) hA sp hsp
 have hvs:∀ sp:Nat→Bool,DataW.TrodVars enc P W' sp s.vars (s.fn H (ds++gs)).vars []:=fun sp=>by
  rw [hfn,hvars]; rfl
 refine ⟨ds,gs,p++[],[],p,[],hW,hres _ _ _,hargs _ (fun x hx=>by simpa using hlt x (by simpa using hx)),hvs _,hb.frame _,fun h=>by cases h⟩
end
/-- An argument that is read stands for these values. -/
theorem rep_of_trod {H:Type} {enc:TypeId×Value→H} {P:Program} {w:World} {sp:Nat→Bool} {held:Bool} {C:Enc A} {t:TypeId} {F:SL A→DataW H→Prop} (h:RdT enc P w sp held C t F) {v:Value} {d:DataW H} {ps:List MemPlace}
  (hd:DataW.Trod enc P w 0 sp held t v d ps):∃ sl,RepL NoO [] w C sl v.cells.toList∧F sl d:=by
 obtain ⟨fuel,h1⟩:=hd
 exact h fuel _ _ _ h1
theorem hr_nil (w:World) (C:Enc A):HR NoO [] w C ([]:List (SO A)):=
 ⟨rfl,fun i so x h _=>by simp at h,fun i j x y b h _ _ _=>by simp at h,fun b h=>(notOwned b h).elim,fun b h=>(notOwned b h).elim,fun b h=>h.elim⟩
end Go.Eng

/-! FOR A PROOF OF AN '..UptoSaid': WHAT THE BOUND GIVES. Copy it as <Name>Bulk.lean (put your seat's Name for YthkffadomgcdaaaGreatDoor, the bound of 'uptoSmall' for 1048576), name it in GOCLAIM.json's 'order' behind <Name>Rows. By an AI agent, Sun Nov 15 2026. No person has read it. No macro, syntax, notation, axiom, sorry. -/
namespace Go.Proofs.YthkffadomgcdaaaGreatDoor.bulks
theorem append {H:Type} (l r:List (DataW H)):Rows.uptoBulkAll (l++r)=Rows.uptoBulkAll l+Rows.uptoBulkAll r:=by
 induction l with
 | nil=>simp [Rows.uptoBulkAll]
 | cons x l ih=>simp only [List.cons_append,Rows.uptoBulkAll,ih]; omega
end Go.Proofs.YthkffadomgcdaaaGreatDoor.bulks

/-! What the rows' readings and listed variables come to, for this program. Conditions: none. -/
namespace Go.Proofs.YthkffadomgcdaaaGreatDoor
open Go Go.Eng Go.Proofs.Tryz Go.ChangeShapes Go.WideShapes Go.RowKit
theorem own:ownKnob prog.godebug=none:=by kernel_rfl
theorem laidOut:laidOutB prog=true:=by kernel_rfl
theorem etNumber : prog.globalNamed "errors.errorType" = some 0 := by kernel_rfl
theorem rtNumber : (prog.cutTypes.find? (·.1 == "internal/reflectlite.rtype")).map (·.2) = some 201 := by kernel_rfl
theorem typesSize:prog.types.size=285:=by kernel_rfl
theorem oneRow:((List.range 285).filter fun t=>prog.rowNamed t [101,114,114,111,114])=[49]:=by kernel_rfl
/-- What the condition gives a walk: the variable's one cell. -/
theorem handle_of_laid {W : World} (h : handlesMet prog [("errors.errorType", Rows.laid_errors_errorType)] W) : W.cell? ⟨0, 0, none⟩ = some (.iface 201 (.agg #[.pointer (some ⟨2, 49, none⟩)])) := by
 obtain ⟨name,u,ty,e1,e2,e3,e4,e5⟩:=h _ (List.mem_singleton.2 rfl)
 have en:name=[101,114,114,111,114]:=(Option.some.inj e1).symm
 subst en
 obtain rfl:=Option.some.inj (rtNumber.symm.trans e2)
 have hm:ty∈(List.range 285).filter fun t=>prog.rowNamed t [101,114,114,111,114]:=List.mem_filter.2 ⟨List.mem_range.2 (by rw [← typesSize]; exact e3),e4⟩
 rw [oneRow] at hm
 obtain rfl:=List.mem_singleton.1 hm
 have hh:typeHandle prog 49 = .pointer (some ⟨2,49,none⟩):=by kernel_rfl
 rw [hh] at e5
 simpa using World.var?_cell etNumber e5 0
/-- A world that meets the rows' conditions: the settled one, the variables' cells laid. -/
def orderCells:Array Value:=#[0,1,2,3,4,5,6,7,8,9,10,11,12,13,14,15,14,10,4,8,9,15,13,6,1,12,0,2,11,7,5,3,11,8,12,0,5,2,15,13,10,14,3,6,7,1,9,4,7,9,3,1,13,12,11,14,2,6,5,10,4,0,15,8,9,0,5,7,2,4,10,15,14,1,11,12,6,8,3,13,2,12,6,10,0,11,8,3,4,13,7,5,15,14,1,9,12,5,1,15,14,13,4,10,0,7,6,3,9,2,8,11,13,11,7,14,12,1,3,9,5,0,15,4,8,6,2,10,6,15,14,9,11,3,0,8,12,2,13,7,1,4,10,5,10,2,8,4,7,6,1,5,15,11,9,14,3,12,13,0].map (Value.int .u8)
def layIn (cs:Array Value):Obj→Obj
 | .cells _ t frozen => .cells cs t frozen
 | o=>o
noncomputable def laidWorld (os:Os):World:=
 { World.holding prog os ⟨#[],#[],[]⟩ with heap:=((World.holding prog os ⟨#[],#[],[]⟩).heap.modify 0 (layIn #[.iface 201 (.agg #[.pointer (some ⟨2,49,none⟩)])])).modify 1 (layIn orderCells) }
theorem cells5:prog.cellsOf 5=1:=by kernel_rfl
section
variable {H:Type} {enc:TypeId×Value→H} {w:World} {sp:Nat→Bool} {held:Bool}
theorem RdT.mono {P:Program} {C:Enc AA} {t:TypeId} {F G:SL AA→DataW H→Prop} (h:RdT enc P w sp held C t F) (hfg:∀ sl d,F sl d→G sl d):RdT enc P w sp held C t G:=by
 intro fuel cs d ps hd
 obtain ⟨sl,h1,h2⟩:=h fuel cs d ps hd
 exact ⟨sl,h1,hfg _ _ h2⟩
end
theorem trod_int {t:TypeId} {k:IntKind} {P:Program} {w:World} {sp:Nat→Bool} {held:Bool} {H:Type} {enc:TypeId×Value→H} (ht:P.underlying t=some (.int k)) {fuel:Nat} {cs:List Value} {d:DataW H} {ps:List MemPlace} (h:DataW.trod enc P w 0 sp held fuel t cs=some (d,ps)) :
  ∃ n,cs=[.int k n]∧d = .lit (.int k n):=by
 cases fuel with
 | zero=>simp [DataW.trod] at h
 | succ fuel=>
  unfold DataW.trod at h
  rw [ht] at h
  split at h
  all_goals first | (rename_i e _; cases e; done) | skip
  all_goals first | (rename_i e; cases e; done) | skip
  all_goals first | (cases h; done) | skip
  rename_i k' n e
  cases e
  split at h
  ·rename_i hc
   obtain ⟨rfl,hw⟩:=hc
   cases h
   exact ⟨n,rfl,rfl⟩
  ·cases h
theorem trod_arr {t e:TypeId} {n:Nat} {P:Program} {w:World} {sp:Nat→Bool} {held:Bool} {H:Type} {enc:TypeId×Value→H} (ht:P.underlying t=some (.array n e)) {fuel:Nat} {cs:List Value} {d:DataW H} {ps:List MemPlace} (h:DataW.trod enc P w 0 sp held fuel t cs=some (d,ps)) :
  ∃ fuel' ds,d = .agg ds∧cs.length=P.cellsOf t∧∀ i,i<n→∃ x p',ds[i]?=some x∧DataW.trod enc P w 0 sp held fuel' e ((cs.drop (i*P.cellsOf e)).take (P.cellsOf e))=some (x,p'):=by
 cases fuel with
 | zero=>simp [DataW.trod] at h
 | succ fuel=>
  simp only [DataW.trod,ht] at h
  split at h
  case isFalse=>cases h
  rename_i hl
  rw [Option.map_eq_some_iff] at h
  obtain ⟨ys,h1,h2⟩:=h
  cases h2
  refine ⟨fuel,_,rfl,hl,fun i hi=>?_⟩
  obtain ⟨_,h3⟩:=mapM_some h1
  obtain ⟨y,h6,h7⟩:=h3 i i (by simp [hi])
  exact ⟨y.1,y.2,by rw [List.getElem?_map,h6]; rfl,h7⟩
/-- A number of a table of two rows' depth. -/
def litAt (d:DataW Unit) (i j:Nat):Int:=match d with
 | .agg l=>match l[i]? with
  | some (.agg m)=>match m[j]? with
   | some (.lit (.int _ n))=>n
   | _ => -1
  | _ => -1
 | _ => -1
theorem lits_ok:((List.range 10).all fun i=>(List.range 16).all fun j=>decide (litAt Rows.laid_bayou_blake_order i j=orderL.getD (16*i+j) 0))=true:=by kernel_rfl
theorem lit_at {i j:Nat} (hi:i<10) (hj:j<16):litAt Rows.laid_bayou_blake_order i j=orderL.getD (16*i+j) 0:=by
 have h:=List.all_eq_true.1 (List.all_eq_true.1 lits_ok i (List.mem_range.2 hi)) j (List.mem_range.2 hj)
 simpa only [decide_eq_true_eq] using h
theorem orderNumber : prog.globalNamed "bayou/blake.order" = some 1 := by kernel_rfl
theorem orderType:(prog.globals[1]?).map (·.type)=some 246:=by kernel_rfl
theorem orderU:prog.underlying 246=some (.array 10 245):=by kernel_rfl
theorem orderUR:prog.underlying 245=some (.array 16 5):=by kernel_rfl
theorem orderC:prog.cellsOf 246=160:=by kernel_rfl
theorem orderCR:prog.cellsOf 245=16:=by kernel_rfl
theorem order_cells {W : World} (h : laidMet prog [("bayou/blake.order", Rows.laid_bayou_blake_order)] W) : ∀ u, u < 160 → W.cell? ⟨1, u, none⟩ = some (.int .u8 (orderL.getD u 0)) := by
 obtain ⟨ps,⟨g,t,cs,fuel,p,q,e1,e2,e3,e4,_⟩,_⟩:=h
 obtain rfl:=Option.some.inj (orderNumber.symm.trans e1)
 obtain rfl:=Option.some.inj (orderType.symm.trans e2)
 intro u hu
 rw [World.var?_cell orderNumber e3 u]
 obtain ⟨f1,ds,h1,hl,h2⟩:=trod_arr orderU e4
 rw [orderC] at hl
 rw [orderCR] at h2
 obtain ⟨x,p1,h3,h4⟩:=h2 (u / 16) (by omega)
 obtain ⟨f2,ds2,h5,_,h6⟩:=trod_arr orderUR h4
 rw [cells5] at h6
 obtain ⟨y,p2,h7,h8⟩:=h6 (u%16) (by omega)
 obtain ⟨n,h9,h10⟩:=trod_int underlying5 h8
 have hn:litAt Rows.laid_bayou_blake_order (u / 16) (u%16)=n:=by
  rw [h1]
  simp only [litAt,h3,h5,h7,h10]
 rw [lit_at (by omega) (by omega),show 16*(u / 16)+u%16=u from by omega] at hn
 have h11:(List.take 1 (List.drop (u%16*1) (List.take 16 (List.drop (u / 16*16) cs.toList))))[0]?=some (.int .u8 n):=by rw [h9]; rfl
 rw [List.getElem?_take,if_pos (by omega),List.getElem?_drop,List.getElem?_take,if_pos (by omega),List.getElem?_drop,show u / 16*16+(u%16*1+0)=u from by omega] at h11
 rw [hn]
 simpa using h11
theorem glob_of_laid {W:World} (hg:W.cell? ⟨0,0,none⟩=some (.iface 201 (.agg #[.pointer (some ⟨2,49,none⟩)]))) (ho:∀ u,u<160→W.cell? ⟨1,u,none⟩=some (.int .u8 (orderL.getD u 0))):Glob GG NoO [] W CC:=by
 intro g cs h
 unfold GG at h
 cases e:Nat.beq g 0 with
 | false=>
  rw [e] at h
  cases e2:Nat.beq g 1 with
  | false=>rw [e2] at h; cases h
  | true=>
   rw [e2] at h
   cases h
   have:=Nat.eq_of_beq_eq_true e2
   subst this
   have hlen:orderL.length=160:=rfl
   have hr:RepL NoO [] W CC (.run .u8 160 orderL .nil) (orderL.map (Value.int .u8)++[]) := .run hlen .nil
   rw [List.append_nil] at hr
   exact .rptr _ 0 (orderL.map (Value.int .u8)) (fun h=>h) (notOwned _) (cell_lt (ho 0 (by omega))) (fun j u hu=>by
    rw [List.getElem?_map] at hu
    cases e3:orderL[j]? with
    | none=>rw [e3] at hu; cases hu
    | some n=>
     rw [e3] at hu
     have hj:j<160:=by
      have:=(List.getElem?_eq_some_iff.1 e3).1
      omega
     have:=ho j hj
     rw [List.getD_eq_getElem?_getD,e3] at this
     cases hu
     simpa using this) hr
 | true=>
  rw [e] at h
  cases h
  have:=Nat.eq_of_beq_eq_true e
  subst this
  exact .rptr 0 0 [.iface 201 (.agg #[.pointer (some ⟨2,49,none⟩)])] (fun h=>h) (notOwned 0) (cell_lt hg) (fun j u hu=>by
   cases j with
   | zero=>simp at hu; subst hu; exact hg
   | succ j=>simp at hu) (.cell .val .nil)
theorem laid_parts {W : World} (h : laidMetH prog [("errors.errorType", Rows.laid_errors_errorType), ("bayou/blake.order", Rows.laid_bayou_blake_order)] W) :
  laidMet prog [("bayou/blake.order", Rows.laid_bayou_blake_order)] W ∧ handlesMet prog [("errors.errorType", Rows.laid_errors_errorType)] W := h
theorem glob_of {W : World} (h : laidMetH prog [("errors.errorType", Rows.laid_errors_errorType), ("bayou/blake.order", Rows.laid_bayou_blake_order)] W) : Glob GG NoO [] W CC :=
 glob_of_laid (handle_of_laid (laid_parts h).2) (order_cells (laid_parts h).1)
end Go.Proofs.YthkffadomgcdaaaGreatDoor

/-! CondChecks: whatever the condition, of bulk at most 1048576, the law answers true. Conditions: the listed variables hold what the card ties. -/
namespace Go.Proofs.YthkffadomgcdaaaGreatDoor
open Go Go.Eng Go.Proofs.Tryz Go.ChangeShapes Go.WideShapes Go.RowKit
/-- The call, out of the contract. -/
theorem law_calls {P:Program} {E:Eng AA} {f:FuncId} {fn:Func} {body:Code} {L:LS AA} {ann:L.X→Anns AA} (hP:E.P=P) (hS:Sound E) (hf:Has P f fn body) (hL:Fits E fn body L ann) (x:L.X) (hx:L.pre x) (hres:L.res x=[.sb 0 true]) (hin:L.hin x=[]) (hle:∀ x,L.pre x→(L.hin x).length≤(L.hout x).length)
  {W:World} {vs:List Value} (ha:ArgsR NoO [] W E.C (L.args x) vs) (hg:Glob E.GL NoO [] W E.C):Calls P f vs.toArray W fun e W'=>e = .returned (.bool true)∧Below W.heap.size W W':=by
 subst hP
 refine (fn_calls hS hf.is hf.body hL.fits hle hx ha (by rw [hin]; exact hr_nil _ _) hg).mono fun e W' he=>?_
 cases e with
 | returned v=>
  obtain ⟨env',h1,_,h2,_⟩:=he
  rw [hres] at h1
  exact ⟨by rw [Rep.inv_sb h1],below_of_step h2⟩
 | panicked c=>exact he.elim
 | outgrown=>exact he.elim
theorem ee_P {P:Program} {u:Bool} {E:Eng AA} {l:List (Nat×SpecT AA)} (h:E=EX u P l):E.P=P:=by subst h; rfl
theorem ee_C {P:Program} {u:Bool} {E:Eng AA} {l:List (Nat×SpecT AA)} (h:E=EX u P l):E.C=CC:=by subst h; rfl
theorem ee_GL {P:Program} {u:Bool} {E:Eng AA} {l:List (Nat×SpecT AA)} (h:E=EX u P l):E.GL=GG:=by subst h; rfl
end Go.Proofs.YthkffadomgcdaaaGreatDoor

/-! BLAKE2s over whole numbers: what the document's sum computes. Conditions: none; of no program. -/
namespace Go.Proofs.YthkffadomgcdaaaGreatDoor
open Go Go.Eng
def x32 (a b:Int):Int:=bitop .xor .u32 a b
def o32 (a b:Int):Int:=bitop .or .u32 a b
def a32 (a b:Int):Int:=wr .u32 (a+b)
/-- A word turned right. -/
def rotr (x n:Int):Int:=o32 (shr .u32 x n) (shl .u32 x (32-n))
def g0 (v:List Int) (i:Int):Int:=v.getD i.toNat 0
/-- G on the words a, b, c, d. -/
def stepB (v:List Int) (a b c d x y:Int):List Int:=
 let v1:=v.set a.toNat (a32 (a32 (g0 v a) (g0 v b)) x)
 let v2:=v1.set d.toNat (rotr (x32 (g0 v1 d) (g0 v1 a)) 16)
 let v3:=v2.set c.toNat (a32 (g0 v2 c) (g0 v2 d))
 let v4:=v3.set b.toNat (rotr (x32 (g0 v3 b) (g0 v3 c)) 12)
 let v5:=v4.set a.toNat (a32 (a32 (g0 v4 a) (g0 v4 b)) y)
 let v6:=v5.set d.toNat (rotr (x32 (g0 v5 d) (g0 v5 a)) 8)
 let v7:=v6.set c.toNat (a32 (g0 v6 c) (g0 v6 d))
 v7.set b.toNat (rotr (x32 (g0 v7 b) (g0 v7 c)) 7)
theorem stepB_len (v:List Int) (a b c d x y:Int):(stepB v a b c d x y).length=v.length:=by simp [stepB]
def placesB:List (List Int):=[[0,4,8,12],[1,5,9,13],[2,6,10,14],[3,7,11,15],[0,5,10,15],[1,6,11,12],[2,7,8,13],[3,4,9,14]]
def pl (i j:Nat):Int:=(placesB.getD i []).getD j 0
/-- Step k of eighty, on the words of a block. -/
def gstep (ord m v:List Int) (k:Nat):List Int:=
 stepB v (pl (k%8) 0) (pl (k%8) 1) (pl (k%8) 2) (pl (k%8) 3) (g0 m (ord.getD (16*(k / 8)+2*(k%8)) 0)) (g0 m (ord.getD (16*(k / 8)+2*(k%8)+1) 0))
def gN (ord m v:List Int):Nat→List Int
 | 0=>v
 | k+1=>gstep ord m (gN ord m v k) k
theorem gN_len (ord m v:List Int):∀ k,(gN ord m v k).length=v.length
 | 0=>rfl
 | k+1=>by simp only [gN,gstep]; rw [stepB_len,gN_len]
def ivB:List Int:=[1779033703,3144134277,1013904242,2773480762,1359893119,2600822924,528734635,1541459225]
/-- A block's word. -/
def wordB (b:List Int) (i:Nat):Int:=b.getD (4*i) 0+256*b.getD (4*i+1) 0+65536*b.getD (4*i+2) 0+16777216*b.getD (4*i+3) 0
def wordsB (b:List Int):List Int:=(List.range 16).map (wordB b)
def v0B (h:List Int) (t:Nat) (last:Bool):List Int:=
 let v:=h++ivB
 let v1:=v.set 12 (x32 (v.getD 12 0) ((t%4294967296:Nat):Int))
 let v2:=v1.set 13 (x32 (v1.getD 13 0) ((t / 4294967296:Nat):Int))
 cond last (v2.set 14 (x32 (v2.getD 14 0) 4294967295)) v2
/-- A block into eight words. -/
def takeB (ord h b:List Int) (t:Nat) (last:Bool):List Int:=
 let v:=gN ord (wordsB b) (v0B h t last) 80
 (List.range 8).map fun i=>x32 (x32 (h.getD i 0) (v.getD i 0)) (v.getD (i+8) 0)
theorem takeB_len (ord h b:List Int) (t:Nat) (last:Bool):(takeB ord h b t last).length=8:=by simp [takeB]
def h0B:List Int:=ivB.set 0 (x32 (ivB.getD 0 0) 16842784)
def blockB (p:List Int) (q:Nat):List Int:=(p.drop (64*q)).take 64
/-- The words behind the first q blocks. -/
def hqB (ord p:List Int):Nat→List Int
 | 0=>h0B
 | q+1=>takeB ord (hqB ord p q) (blockB p q) (64*(q+1)) false
theorem hqB_len (ord p:List Int):∀ q,(hqB ord p q).length=8
 | 0=>rfl
 | _+1=>takeB_len _ _ _ _ _
/-- How many blocks are taken in ahead of the last one. -/
def nq (n:Nat):Nat:=(n-1) / 64
def padB (l:List Int):List Int:=l++List.replicate (64-l.length) 0
def outB (h:List Int):List Int:=(List.range 32).map fun i=>wr .u8 (shr .u32 (h.getD (i / 4) 0) (8*((i%4:Nat):Int)))
/-- The sum of bytes. -/
def sumB (ord p:List Int):List Int:=outB (takeB ord (hqB ord p (nq p.length)) (padB (p.drop (64*nq p.length))) p.length true)
theorem sumB_len (ord p:List Int):(sumB ord p).length=32:=by simp [sumB,outB]
end Go.Proofs.YthkffadomgcdaaaGreatDoor

/-! BLAKE2s, the program's and the document's small functions: what they say. Conditions: none. -/
namespace Go.Proofs.YthkffadomgcdaaaGreatDoor
open Go Go.Eng Go.Proofs.Tryz
def asK (k:IntKind):SV AA→Option Int
 | .int k' n=>if k'=k then some n else none
 | .lit k' n=>if k'=k then some n else none
 | _=>none
def rightLS:LS AA where
 X:=Int×Int
 pre:=fun x=>0≤x.2∧x.2≤32
 args:=fun x=>[.int .u32 x.1,.int .i64 x.2]
 hin:=fun _=>[]
 res:=fun x=>[.int .u32 (rotr x.1 x.2)]
 hout:=fun _=>[]
def rightGet (args:List (SV AA)) (_:List (SO AA)):Option (Int×Int):=match args with
 | [x,n]=>match asK .u32 x,asI n with
  | some x,some n=>some (x,n)
  | _,_=>none
 | _=>none
def L30:List (Nat×SpecT AA):=(140,tLent rightLS rightGet)::L19c
noncomputable def E30:Eng AA:=EE prog L30
theorem E30_eq:E30=EE prog L30:=by
 unfold E30
 rfl
def rotlLS:LS AA where
 X:=Int×Int
 pre:=fun x=>x.2 = -16∨x.2 = -12∨x.2 = -8∨x.2 = -7
 args:=fun x=>[.int .u32 x.1,.int .i64 x.2]
 hin:=fun _=>[]
 res:=fun x=>[.int .u32 (rotr x.1 (0-x.2))]
 hout:=fun _=>[]
def L31:List (Nat×SpecT AA):=(142,tLent rotlLS rightGet)::L30
noncomputable def E31:Eng AA:=EE prog L31
theorem E31_eq:E31=EE prog L31:=by
 unfold E31
 rfl
structure MixX where
 v:List Int
 a:Int
 b:Int
 c:Int
 d:Int
 x:Int
 y:Int
def MixX.out (m:MixX):List Int:=stepB m.v m.a m.b m.c m.d m.x m.y
structure MixX.Ok (m:MixX):Prop where
 len:m.v.length=16
 a0:0≤m.a
 a1:m.a<16
 b0:0≤m.b
 b1:m.b<16
 c0:0≤m.c
 c1:m.c<16
 d0:0≤m.d
 d1:m.d<16
def mixLS:LS AA where
 X:=MixX
 pre:=MixX.Ok
 args:=fun m=>[.ptr 0 0,.int .i64 m.a,.int .i64 m.b,.int .i64 m.c,.int .i64 m.d,.int .u32 m.x,.int .u32 m.y]
 hin:=fun m=>[.cells 244 (.run .u32 16 m.v .nil)]
 res:=fun _=>[]
 hout:=fun m=>[.cells 244 (.run .u32 16 m.out .nil)]
def u32At (sh:List (SO AA)):SV AA→Option (List Int)
 | .ptr i 0=>match nth sh i with
  | some (.cells _ (.run _ _ v .nil))=>some v
  | _=>none
 | .vec i=>match nth sh i with
  | some (.ivec _ _ v)=>some v
  | _=>none
 | _=>none
def mixGet (args:List (SV AA)) (sh:List (SO AA)):Option MixX:=match args with
 | [p,a,b,c,d,x,y]=>match u32At sh p,asI a,asI b,asI c,asI d,asK .u32 x,asK .u32 y with
  | some v,some a,some b,some c,some d,some x,some y=>some ⟨v,a,b,c,d,x,y⟩
  | _,_,_,_,_,_,_=>none
 | _=>none
def L32:List (Nat×SpecT AA):=(136,tLent mixLS mixGet)::L31
noncomputable def E32:Eng AA:=EE prog L32
theorem E32_eq:E32=EE prog L32:=by
 unfold E32
 rfl
def stepLS:LS AA where
 X:=MixX
 pre:=MixX.Ok
 args:=fun m=>[.vec 0,.int .i64 m.a,.int .i64 m.b,.int .i64 m.c,.int .i64 m.d,.int .u32 m.x,.int .u32 m.y]
 hin:=fun m=>[.ivec 174 .u32 m.v]
 res:=fun _=>[]
 hout:=fun m=>[.ivec 174 .u32 m.out]
def L33:List (Nat×SpecT AA):=(125,tLent stepLS mixGet)::L32
noncomputable def E33:Eng AA:=EE prog L33
theorem E33_eq:E33=EE prog L33:=by
 unfold E33
 rfl
def firstLS:LS AA where
 X:=Unit
 pre:=fun _=>True
 args:=fun _=>[]
 hin:=fun _=>[]
 res:=fun _=>[.agg (.run .u32 8 ivB .nil)]
 hout:=fun _=>[]
def L34:List (Nat×SpecT AA):=(79,tLent firstLS sureGet)::L33
noncomputable def E34:Eng AA:=EE prog L34
theorem E34_eq:E34=EE prog L34:=by
 unfold E34
 rfl
def beginLS:LS AA where
 X:=Unit
 pre:=fun _=>True
 args:=fun _=>[]
 hin:=fun _=>[]
 res:=fun _=>[.vec 0]
 hout:=fun _=>[.ivec 174 .u32 ivB]
def L35:List (Nat×SpecT AA):=(90,tLent beginLS sureGet)::L34
noncomputable def E35:Eng AA:=EE prog L35
theorem E35_eq:E35=EE prog L35:=by
 unfold E35
 rfl
/-- A digit of base 16. -/
def digN (c:Int):Int:=if 97≤c then c-87 else c-48
def digitLS:LS AA where
 X:=Int
 pre:=fun c=>48≤c∧c≤102
 args:=fun c=>[.int .u8 c]
 hin:=fun _=>[]
 res:=fun c=>[.int .i64 (digN c)]
 hout:=fun _=>[]
def digitGet (args:List (SV AA)) (_:List (SO AA)):Option Int:=match args with
 | [c]=>asK .u8 c
 | _=>none
def L36:List (Nat×SpecT AA):=(126,tLent digitLS digitGet)::L35
noncomputable def E36:Eng AA:=EE prog L36
theorem E36_eq:E36=EE prog L36:=by
 unfold E36
 rfl
def rowsB:List ByteArray:=[⟨#[48,49,50,51,52,53,54,55,56,57,97,98,99,100,101,102]⟩,⟨#[101,97,52,56,57,102,100,54,49,99,48,50,98,55,53,51]⟩,⟨#[98,56,99,48,53,50,102,100,97,101,51,54,55,49,57,52]⟩,⟨#[55,57,51,49,100,99,98,101,50,54,53,97,52,48,102,56]⟩,⟨#[57,48,53,55,50,52,97,102,101,49,98,99,54,56,51,100]⟩,⟨#[50,99,54,97,48,98,56,51,52,100,55,53,102,101,49,57]⟩,⟨#[99,53,49,102,101,100,52,97,48,55,54,51,57,50,56,98]⟩,⟨#[100,98,55,101,99,49,51,57,53,48,102,52,56,54,50,97]⟩,⟨#[54,102,101,57,98,51,48,56,99,50,100,55,49,52,97,53]⟩,⟨#[97,50,56,52,55,54,49,53,102,98,57,101,51,99,100,48]⟩]
def rowLS:LS AA where
 X:=Int
 pre:=fun r=>0≤r∧r<10
 args:=fun r=>[.int .i64 r]
 hin:=fun _=>[]
 res:=fun r=>[.val (.string (rowsB.getD r.toNat ByteArray.empty))]
 hout:=fun _=>[]
def rowGet (args:List (SV AA)) (_:List (SO AA)):Option Int:=match args with
 | [c]=>asI c
 | _=>none
def L37:List (Nat×SpecT AA):=(124,tLent rowLS rowGet)::L36
noncomputable def E37:Eng AA:=EE prog L37
theorem E37_eq:E37=EE prog L37:=by
 unfold E37
 rfl
end Go.Proofs.YthkffadomgcdaaaGreatDoor

/-! BLAKE2s, the program's and the document's small functions: they hold. Conditions: none. -/
namespace Go.Proofs.YthkffadomgcdaaaGreatDoor
open Go Go.Eng Go.Proofs.Tryz
theorem wr32 (x:Int):wr .u32 x=x%4294967296:=by
 show IntKind.wrap .u32 x=_
 simp [IntKind.wrap,IntKind.bits,IntKind.signed]
theorem wr8 (x:Int):wr .u8 x=x%256:=by
 show IntKind.wrap .u8 x=_
 simp [IntKind.wrap,IntKind.bits,IntKind.signed]
theorem wr64u (x:Int):wr .u64 x=x%18446744073709551616:=by
 show IntKind.wrap .u64 x=_
 simp [IntKind.wrap,IntKind.bits,IntKind.signed]
theorem wr64 {x:Int} (h:inI64 x):wr .i64 x=x:=wrap_id h
theorem a32_assoc (p q x:Int):wr .u32 (p+wr .u32 (q+x))=wr .u32 (wr .u32 (p+q)+x):=by
 simp only [wr32]; omega
theorem bitop_nat (op:BinOp) (f:{n:Nat}→BitVec n→BitVec n→BitVec n) (h:∀ k x y,bitop op k x y=k.wrap (f (BitVec.ofInt k.bits x) (BitVec.ofInt k.bits y)).toNat) (x y:Int) :
  bitop op .u32 x y=((f (BitVec.ofInt 32 x) (BitVec.ofInt 32 y)).toNat:Int):=by
 rw [h]
 show wr .u32 _=_
 rw [wr32]
 have:(f (BitVec.ofInt 32 x) (BitVec.ofInt 32 y)).toNat<2 ^ 32:=BitVec.isLt _
 show ((f (BitVec.ofInt 32 x) (BitVec.ofInt 32 y)).toNat:Int)%4294967296=_
 omega
theorem xor_bv (x y:Int):bitop .xor .u32 x y=((BitVec.ofInt 32 x ^^^ BitVec.ofInt 32 y).toNat:Int):=bitop_nat .xor (fun a b=>a ^^^ b) (fun _ _ _=>rfl) x y
theorem or_bv (x y:Int):bitop .or .u32 x y=((BitVec.ofInt 32 x ||| BitVec.ofInt 32 y).toNat:Int):=bitop_nat .or (fun a b=>a ||| b) (fun _ _ _=>rfl) x y
theorem ofInt_toNat (b:BitVec 32):BitVec.ofInt 32 (b.toNat:Int)=b:=by
 simp
theorem x32_assoc (x y z:Int):x32 x (x32 y z)=x32 (x32 x y) z:=by
 unfold x32
 rw [xor_bv y z,xor_bv x y,xor_bv,xor_bv,ofInt_toNat,ofInt_toNat,BitVec.xor_assoc]
theorem x32_comm (x y:Int):x32 x y=x32 y x:=by
 unfold x32
 rw [xor_bv,xor_bv,BitVec.xor_comm]
theorem o32_comm (x y:Int):o32 x y=o32 y x:=by
 unfold o32
 rw [or_bv,or_bv,BitVec.or_comm]
def rightVC:Prop:=∀ (x:Int×Int),(0:Int)≤x.snd∧x.snd≤(32:Int)→(0:Int)≤x.snd∧inI64 ((32:Int)-x.snd)∧(0:Int)≤(32:Int)-x.snd∧rotr
 x.fst x.snd=bitop BinOp.or IntKind.u32 (shr IntKind.u32 x.fst x.snd) (shl IntKind.u32 x.fst ((32:Int)-x.snd))∧True∧True
theorem right_eq:rightVC=fnS E19c f140 (bodyOf f140) rightLS noAnn:=by kernel_rfl
theorem right_vc:rightVC:=by
 rintro ⟨x,n⟩ ⟨h1,h2⟩
 exact ⟨h1,by unfold inI64; simp only at h1 h2 ⊢; omega,by simp only at h1 h2 ⊢; omega,rfl,trivial,trivial⟩
theorem right_ok:Fits E19c f140 (bodyOf f140) rightLS noAnn:=by
 constructor
 rw [← right_eq]
 exact right_vc
theorem f131_has:Has prog 140 f140 (bodyOf f140):=⟨by kernel_rfl,by kernel_rfl,by kernel_rfl⟩
theorem known30:Known prog L30:=by
 unfold L30
 exact known19c.lent mixed f131_has E19c_eq right_ok (fun _ _=>Nat.le_refl _) (fun _ _=>rfl)
def rotlVC:Prop:=∀ (x:Int×Int),x.snd=(-16:Int)∨x.snd=(-12:Int)∨x.snd=(-8:Int)∨x.snd=(-7:Int)→(0:Int)≤bitop BinOp.and IntKind.u64 (wr
 IntKind.u64 x.snd) (31:Int)∧(0:Int)≤wr IntKind.u64 ((32:Int)-bitop BinOp.and IntKind.u64 (wr IntKind.u64 x.snd) (31:Int))∧rotr x.fst
 ((0:Int)-x.snd)=bitop BinOp.or IntKind.u32 (shl IntKind.u32 x.fst (bitop BinOp.and IntKind.u64 (wr IntKind.u64 x.snd) (31:Int))) (shr
 IntKind.u32 x.fst (wr IntKind.u64 ((32:Int)-bitop BinOp.and IntKind.u64 (wr IntKind.u64 x.snd) (31:Int))))∧True∧True
theorem rotl_eq:rotlVC=fnS E30 f142 (bodyOf f142) rotlLS noAnn:=by kernel_rfl
theorem rotl_vc:rotlVC:=by
 rintro ⟨x,k⟩ h
 simp only at h
 have key:∀ (k s:Int),bitop .and .u64 (wr .u64 k) 31=s→wr .u64 (32-s)=0-k→0≤s→0≤0-k→s=32-(0-k) →
   (0≤bitop .and .u64 (wr .u64 k) 31∧0≤wr .u64 (32-bitop .and .u64 (wr .u64 k) 31) ∧
    rotr x (0-k)=bitop .or .u32 (shl .u32 x (bitop .and .u64 (wr .u64 k) 31)) (shr .u32 x (wr .u64 (32-bitop .and .u64 (wr .u64 k) 31)))∧True∧True):=by
  intro k s h1 h2 h3 h4 h5
  rw [h1,h2]
  refine ⟨h3,h4,?_,trivial,trivial⟩
  rw [h5]
  exact o32_comm _ _
 rcases h with rfl | rfl | rfl | rfl
 ·exact key (-16) 16 (by decide) (by decide) (by decide) (by decide) (by decide)
 ·exact key (-12) 20 (by decide) (by decide) (by decide) (by decide) (by decide)
 ·exact key (-8) 24 (by decide) (by decide) (by decide) (by decide) (by decide)
 ·exact key (-7) 25 (by decide) (by decide) (by decide) (by decide) (by decide)
theorem rotl_ok:Fits E30 f142 (bodyOf f142) rotlLS noAnn:=by
 constructor
 rw [← rotl_eq]
 exact rotl_vc
theorem f137_has:Has prog 142 f142 (bodyOf f142):=⟨by kernel_rfl,by kernel_rfl,by kernel_rfl⟩
theorem known31:Known prog L31:=by
 unfold L31
 exact known30.lent mixed f137_has E30_eq rotl_ok (fun _ _=>Nat.le_refl _) (fun _ _=>rfl)
def mixVC:Prop:=∀ (x:MixX),x.Ok→(0:Int)≤x.a∧x.a<(↑(16:Nat):Int)∧(0:Int)≤x.b∧x.b<(↑(16:Nat):Int)∧(0:Int)≤x.a∧x.a<(↑(16:Nat) :
 Int)∧∀ (ys:List Int),ys=x.v.set x.a.toNat (wr IntKind.u32 (x.v.getD x.a.toNat (0:Int)+wr IntKind.u32 (x.v.getD x.b.toNat (0:Int)+x.x)))
 → (0:Int)≤x.d∧x.d<(↑(16:Nat):Int)∧(0:Int)≤x.a∧x.a<(↑(16:Nat):Int)∧(bitop BinOp.xor IntKind.u32 (ys.getD x.d.toNat (0 :
 Int)) (ys.getD x.a.toNat (0:Int))=bitop BinOp.xor IntKind.u32 (ys.getD x.d.toNat (0:Int)) (ys.getD x.a.toNat (0:Int))∧(-16:Int)=(-16 :
 Int))∧True∧((-16:Int)=(-16:Int)∨(-16:Int)=(-12:Int)∨(-16:Int)=(-8:Int)∨(-16:Int)=(-7:Int))∧(0:Int)≤x.d∧x.d <
 (↑(16:Nat):Int)∧∀ (ys_1:List Int),ys_1=ys.set x.d.toNat (rotr (bitop BinOp.xor IntKind.u32 (ys.getD x.d.toNat (0:Int)) (ys.getD x.a.toNat
 (0:Int))) ((0:Int)-(-16:Int)))→(0:Int)≤x.c∧x.c<(↑(16:Nat):Int)∧(0:Int)≤x.d∧x.d<(↑(16:Nat):Int)∧(0:Int)≤x.c ∧
 x.c<(↑(16:Nat):Int)∧∀ (ys:List Int),ys=ys_1.set x.c.toNat (wr IntKind.u32 (ys_1.getD x.c.toNat (0:Int)+ys_1.getD x.d.toNat (0:Int)))
 → (0:Int)≤x.b∧x.b<(↑(16:Nat):Int)∧(0:Int)≤x.c∧x.c<(↑(16:Nat):Int)∧(bitop BinOp.xor IntKind.u32 (ys.getD x.b.toNat (0 :
 Int)) (ys.getD x.c.toNat (0:Int))=bitop BinOp.xor IntKind.u32 (ys.getD x.b.toNat (0:Int)) (ys.getD x.c.toNat (0:Int))∧(-12:Int)=(-12 :
 Int))∧True∧((-12:Int)=(-16:Int)∨(-12:Int)=(-12:Int)∨(-12:Int)=(-8:Int)∨(-12:Int)=(-7:Int))∧(0:Int)≤x.b∧x.b <
 (↑(16:Nat):Int)∧∀ (ys_2:List Int),ys_2=ys.set x.b.toNat (rotr (bitop BinOp.xor IntKind.u32 (ys.getD x.b.toNat (0:Int)) (ys.getD x.c.toNat
 (0:Int))) ((0:Int)-(-12:Int)))→(0:Int)≤x.a∧x.a<(↑(16:Nat):Int)∧(0:Int)≤x.b∧x.b<(↑(16:Nat):Int)∧(0:Int)≤x.a ∧
 x.a<(↑(16:Nat):Int)∧∀ (ys:List Int),ys=ys_2.set x.a.toNat (wr IntKind.u32 (ys_2.getD x.a.toNat (0:Int)+wr IntKind.u32 (ys_2.getD
 x.b.toNat (0:Int)+x.y)))→(0:Int)≤x.d∧x.d<(↑(16:Nat):Int)∧(0:Int)≤x.a∧x.a<(↑(16:Nat):Int)∧(bitop BinOp.xor IntKind.u32
 (ys.getD x.d.toNat (0:Int)) (ys.getD x.a.toNat (0:Int))=bitop BinOp.xor IntKind.u32 (ys.getD x.d.toNat (0:Int)) (ys.getD x.a.toNat (0:Int)) ∧
 (-8:Int)=(-8:Int))∧True∧((-8:Int)=(-16:Int)∨(-8:Int)=(-12:Int)∨(-8:Int)=(-8:Int)∨(-8:Int)=(-7:Int))∧(0:Int)
 ≤ x.d∧x.d<(↑(16:Nat):Int)∧∀ (ys_3:List Int),ys_3=ys.set x.d.toNat (rotr (bitop BinOp.xor IntKind.u32 (ys.getD x.d.toNat (0:Int))
 (ys.getD x.a.toNat (0:Int))) ((0:Int)-(-8:Int)))→(0:Int)≤x.c∧x.c<(↑(16:Nat):Int)∧(0:Int)≤x.d∧x.d<(↑(16:Nat):Int) ∧
 (0:Int)≤x.c∧x.c<(↑(16:Nat):Int)∧∀ (ys:List Int),ys=ys_3.set x.c.toNat (wr IntKind.u32 (ys_3.getD x.c.toNat (0:Int)+ys_3.getD
 x.d.toNat (0:Int)))→(0:Int)≤x.b∧x.b<(↑(16:Nat):Int)∧(0:Int)≤x.c∧x.c<(↑(16:Nat):Int)∧(bitop BinOp.xor IntKind.u32
 (ys.getD x.b.toNat (0:Int)) (ys.getD x.c.toNat (0:Int))=bitop BinOp.xor IntKind.u32 (ys.getD x.b.toNat (0:Int)) (ys.getD x.c.toNat (0:Int)) ∧
 (-7:Int)=(-7:Int))∧True∧((-7:Int)=(-16:Int)∨(-7:Int)=(-12:Int)∨(-7:Int)=(-8:Int)∨(-7:Int)=(-7:Int))∧(0:Int)
 ≤ x.b∧x.b<(↑(16:Nat):Int)∧∀ (ys_4:List Int),ys_4=ys.set x.b.toNat (rotr (bitop BinOp.xor IntKind.u32 (ys.getD x.b.toNat (0:Int))
 (ys.getD x.c.toNat (0:Int))) ((0:Int)-(-7:Int)))→True∧((x.out=ys_4∧True)∧True)∧True
theorem mix_eq:mixVC=fnS E31 f136 (bodyOf f136) mixLS noAnn:=by kernel_rfl
theorem mix_vc:mixVC:=by
 rintro ⟨v,a,b,c,d,x,y⟩ ⟨h1,h2,h3,h4,h5,h6,h7,h8,h9⟩
 simp only at h1 h2 h3 h4 h5 h6 h7 h8 h9
 simp only [a32_assoc,true_and,and_true,h2,h3,h4,h5,h6,h7,h8,h9,show ((16:Nat):Int)=16 from rfl]
 intro y1 e1
 refine ⟨by decide,?_⟩
 intro y2 e2 y3 e3
 refine ⟨by decide,?_⟩
 intro y4 e4 y5 e5
 refine ⟨by decide,?_⟩
 intro y6 e6 y7 e7
 refine ⟨by decide,?_⟩
 intro y8 e8
 subst e1; subst e2; subst e3; subst e4; subst e5; subst e6; subst e7; subst e8
 rfl
theorem mix_ok:Fits E31 f136 (bodyOf f136) mixLS noAnn:=by
 constructor
 rw [← mix_eq]
 exact mix_vc
theorem f130_has:Has prog 136 f136 (bodyOf f136):=⟨by kernel_rfl,by kernel_rfl,by kernel_rfl⟩
theorem known32:Known prog L32:=by
 unfold L32
 exact known31.lent mixed f130_has E31_eq mix_ok (fun _ _=>Nat.le_refl _) (fun h=>by cases h)
def stepVC:Prop:=∀ (x:MixX),x.Ok→(0:Int)≤x.a∧x.a<(x.v.length:Int)∧x.a.toNat<x.v.length∧(0:Int)≤x.b∧x.b<(x.v.length:Int)∧x.b.toNat <
 x.v.length∧(0:Int)≤x.a∧x.a<(x.v.length:Int)∧x.a.toNat<x.v.length∧∀ (ys:List Int),ys=x.v.set x.a.toNat (wr IntKind.u32 (wr
 IntKind.u32 (x.v.getD x.a.toNat (0:Int)+x.v.getD x.b.toNat (0:Int))+x.x))→(0:Int)≤x.d∧x.d<(ys.length:Int)∧x.d.toNat<ys.length
 ∧ (0:Int)≤x.a∧x.a<(ys.length:Int)∧x.a.toNat<ys.length∧(bitop BinOp.xor IntKind.u32 (ys.getD x.d.toNat (0:Int)) (ys.getD x.a.toNat (0
 : Int))=bitop BinOp.xor IntKind.u32 (ys.getD x.d.toNat (0:Int)) (ys.getD x.a.toNat (0:Int))∧(16:Int)=(16:Int))∧True∧((0:Int)≤(16
 : Int)∧(16:Int)≤(32:Int))∧(0:Int)≤x.d∧x.d<(ys.length:Int)∧x.d.toNat<ys.length∧∀ (ys_1:List Int),ys_1=ys.set x.d.toNat
 (rotr (bitop BinOp.xor IntKind.u32 (ys.getD x.d.toNat (0:Int)) (ys.getD x.a.toNat (0:Int))) (16:Int))→(0:Int)≤x.c∧x.c<(↑ys_1.length :
 Int)∧x.c.toNat<ys_1.length∧(0:Int)≤x.d∧x.d<(ys_1.length:Int)∧x.d.toNat<ys_1.length∧(0:Int)≤x.c∧x.c<(ys_1.length:Int)
 ∧ x.c.toNat<ys_1.length∧∀ (ys:List Int),ys=ys_1.set x.c.toNat (wr IntKind.u32 (ys_1.getD x.c.toNat (0:Int)+ys_1.getD x.d.toNat (0:Int)))
 → (0:Int)≤x.b∧x.b<(ys.length:Int)∧x.b.toNat<ys.length∧(0:Int)≤x.c∧x.c<(ys.length:Int)∧x.c.toNat<ys.length∧(bitop
 BinOp.xor IntKind.u32 (ys.getD x.b.toNat (0:Int)) (ys.getD x.c.toNat (0:Int))=bitop BinOp.xor IntKind.u32 (ys.getD x.b.toNat (0:Int)) (ys.getD
 x.c.toNat (0:Int))∧(12:Int)=(12:Int))∧True∧((0:Int)≤(12:Int)∧(12:Int)≤(32:Int))∧(0:Int)≤x.b∧x.b<(↑ys.length :
 Int)∧x.b.toNat<ys.length∧∀ (ys_2:List Int),ys_2=ys.set x.b.toNat (rotr (bitop BinOp.xor IntKind.u32 (ys.getD x.b.toNat (0:Int)) (ys.getD
 x.c.toNat (0:Int))) (12:Int))→(0:Int)≤x.a∧x.a<(ys_2.length:Int)∧x.a.toNat<ys_2.length∧(0:Int)≤x.b∧x.b<(↑ys_2.length :
 Int)∧x.b.toNat<ys_2.length∧(0:Int)≤x.a∧x.a<(ys_2.length:Int)∧x.a.toNat<ys_2.length∧∀ (ys:List Int),ys=ys_2.set x.a.toNat
 (wr IntKind.u32 (wr IntKind.u32 (ys_2.getD x.a.toNat (0:Int)+ys_2.getD x.b.toNat (0:Int))+x.y))→(0:Int)≤x.d∧x.d<(ys.length:Int) ∧
 x.d.toNat<ys.length∧(0:Int)≤x.a∧x.a<(ys.length:Int)∧x.a.toNat<ys.length∧(bitop BinOp.xor IntKind.u32 (ys.getD x.d.toNat (0:Int))
 (ys.getD x.a.toNat (0:Int))=bitop BinOp.xor IntKind.u32 (ys.getD x.d.toNat (0:Int)) (ys.getD x.a.toNat (0:Int))∧(8:Int)=(8:Int))∧True
 ∧ ((0:Int)≤(8:Int)∧(8:Int)≤(32:Int))∧(0:Int)≤x.d∧x.d<(ys.length:Int)∧x.d.toNat<ys.length∧∀ (ys_3:List Int),ys_3 =
 ys.set x.d.toNat (rotr (bitop BinOp.xor IntKind.u32 (ys.getD x.d.toNat (0:Int)) (ys.getD x.a.toNat (0:Int))) (8:Int))→(0:Int)≤x.c∧x.c <
 (ys_3.length:Int)∧x.c.toNat<ys_3.length∧(0:Int)≤x.d∧x.d<(ys_3.length:Int)∧x.d.toNat<ys_3.length∧(0:Int)≤x.c∧x.c <
 (ys_3.length:Int)∧x.c.toNat<ys_3.length∧∀ (ys:List Int),ys=ys_3.set x.c.toNat (wr IntKind.u32 (ys_3.getD x.c.toNat (0:Int)+ys_3.getD
 x.d.toNat (0:Int)))→(0:Int)≤x.b∧x.b<(ys.length:Int)∧x.b.toNat<ys.length∧(0:Int)≤x.c∧x.c<(ys.length:Int)∧x.c.toNat <
 ys.length∧(bitop BinOp.xor IntKind.u32 (ys.getD x.b.toNat (0:Int)) (ys.getD x.c.toNat (0:Int))=bitop BinOp.xor IntKind.u32 (ys.getD x.b.toNat
 (0:Int)) (ys.getD x.c.toNat (0:Int))∧(7:Int)=(7:Int))∧True∧((0:Int)≤(7:Int)∧(7:Int)≤(32:Int))∧(0:Int)≤x.b∧x.b <
 (ys.length:Int)∧x.b.toNat<ys.length∧∀ (ys_4:List Int),ys_4=ys.set x.b.toNat (rotr (bitop BinOp.xor IntKind.u32 (ys.getD x.b.toNat (0 :
 Int)) (ys.getD x.c.toNat (0:Int))) (7:Int))→True∧(x.out=ys_4∧True)∧True
theorem step_eq:stepVC=fnS E32 f125 (bodyOf f125) stepLS noAnn:=by kernel_rfl
theorem step_vc:stepVC:=by
 rintro ⟨v,a,b,c,d,x,y⟩ ⟨h1,h2,h3,h4,h5,h6,h7,h8,h9⟩
 simp only at h1 h2 h3 h4 h5 h6 h7 h8 h9
 have ha:a.toNat<16:=by omega
 have hb:b.toNat<16:=by omega
 have hc:c.toNat<16:=by omega
 have hd:d.toNat<16:=by omega
 have e16:((16:Nat):Int)=16:=rfl
 simp only [true_and,and_true,h1,h2,h3,h4,h5,h6,h7,h8,h9,ha,hb,hc,hd,e16]
 intro y1 e1
 have l1:y1.length=16:=by rw [e1,List.length_set,h1]
 simp only [l1,true_and,h2,h3,h4,h5,h6,h7,h8,h9,ha,hb,hc,hd,e16]
 refine ⟨by decide,?_⟩
 intro y2 e2
 have l2:y2.length=16:=by rw [e2,List.length_set,l1]
 simp only [l2,true_and,h2,h3,h4,h5,h6,h7,h8,h9,ha,hb,hc,hd,e16]
 intro y3 e3
 have l3:y3.length=16:=by rw [e3,List.length_set,l2]
 simp only [l3,true_and,h2,h3,h4,h5,h6,h7,h8,h9,ha,hb,hc,hd,e16]
 refine ⟨by decide,?_⟩
 intro y4 e4
 have l4:y4.length=16:=by rw [e4,List.length_set,l3]
 simp only [l4,true_and,h2,h3,h4,h5,h6,h7,h8,h9,ha,hb,hc,hd,e16]
 intro y5 e5
 have l5:y5.length=16:=by rw [e5,List.length_set,l4]
 simp only [l5,true_and,h2,h3,h4,h5,h6,h7,h8,h9,ha,hb,hc,hd,e16]
 refine ⟨by decide,?_⟩
 intro y6 e6
 have l6:y6.length=16:=by rw [e6,List.length_set,l5]
 simp only [l6,true_and,h2,h3,h4,h5,h6,h7,h8,h9,ha,hb,hc,hd,e16]
 intro y7 e7
 have l7:y7.length=16:=by rw [e7,List.length_set,l6]
 simp only [l7,true_and,h2,h3,h4,h5,h6,h7,h8,h9,ha,hb,hc,hd,e16]
 refine ⟨by decide,?_⟩
 intro y8 e8
 subst e1; subst e2; subst e3; subst e4; subst e5; subst e6; subst e7; subst e8
 rfl
theorem step_ok:Fits E32 f125 (bodyOf f125) stepLS noAnn:=by
 constructor
 rw [← step_eq]
 exact step_vc
theorem f116_has:Has prog 125 f125 (bodyOf f125):=⟨by kernel_rfl,by kernel_rfl,by kernel_rfl⟩
theorem known33:Known prog L33:=by
 unfold L33
 exact known32.lent mixed f116_has E32_eq step_ok (fun _ _=>Nat.le_refl _) (fun h=>by cases h)
def firstVC:Prop:=∀ (_:Unit),True→(ivB=[(1779033703:Int),(3144134277:Int),(1013904242:Int),(2773480762:Int),(1359893119:Int),(2600822924:Int),
 (528734635:Int),(1541459225:Int)]∧True)∧True∧True
theorem first_eq:firstVC=fnS E33 f79 (bodyOf f79) firstLS noAnn:=by kernel_rfl
theorem first_vc:firstVC:=fun _ _=>⟨⟨rfl,trivial⟩,trivial,trivial⟩
theorem first_ok:Fits E33 f79 (bodyOf f79) firstLS noAnn:=by
 constructor
 rw [← first_eq]
 exact first_vc
theorem f89_has:Has prog 79 f79 (bodyOf f79):=⟨by kernel_rfl,by kernel_rfl,by kernel_rfl⟩
theorem known34:Known prog L34:=by
 unfold L34
 exact known33.lent mixed f89_has E33_eq first_ok (fun _ _=>Nat.le_refl _) (fun _ _=>rfl)
def beginVC:Prop:=∀ (_:Unit),True→True∧True∧ivB=[(1779033703:Int),(3144134277:Int),(1013904242:Int),(2773480762:Int),(1359893119:Int),
 (2600822924:Int),(528734635:Int),(1541459225:Int)]∧True
theorem begin_eq:beginVC=fnS E34 f90 (bodyOf f90) beginLS noAnn:=by kernel_rfl
theorem begin_vc:beginVC:=fun _ _=>⟨trivial,trivial,rfl,trivial⟩
theorem begin_ok:Fits E34 f90 (bodyOf f90) beginLS noAnn:=by
 constructor
 rw [← begin_eq]
 exact begin_vc
theorem f92_has:Has prog 90 f90 (bodyOf f90):=⟨by kernel_rfl,by kernel_rfl,by kernel_rfl⟩
theorem known35:Known prog L35:=by
 unfold L35
 exact known34.lent mixed f92_has E34_eq begin_ok (fun _ _=>Nat.zero_le _) (fun _ _=>rfl)
def digitVC:Prop:=∀ (x:Int),(48:Int)≤x∧x≤(102:Int)→(decide (x≥(97:Int))=true→inI64 (wr IntKind.i64 (wr IntKind.u8 (x-(97:Int)))+(10:Int))
 ∧ digN x=wr IntKind.i64 (wr IntKind.u8 (x-(97:Int)))+(10:Int)∧True∧True)∧(decide (x≥(97:Int))=false→digN x=wr IntKind.i64 (wr
 IntKind.u8 (x-(48:Int)))∧True∧True)
theorem digit_eq:digitVC=fnS E35 f126 (bodyOf f126) digitLS noAnn:=by kernel_rfl
theorem digit_vc:digitVC:=by
 rintro c ⟨h1,h2⟩
 have h48:wr .u8 (c-48)=c-48:=by rw [wr8]; omega
 refine ⟨fun h=>?_,fun h=>?_⟩
 ·simp only [decide_eq_true_eq] at h
  have h97:wr .u8 (c-97)=c-97:=by rw [wr8]; omega
  rw [h97,wr64 (by unfold inI64; omega)]
  refine ⟨by unfold inI64; omega,?_,trivial,trivial⟩
  rw [digN,if_pos (by omega)]; omega
 ·simp only [decide_eq_false_iff_not] at h
  rw [h48,wr64 (by unfold inI64; omega)]
  refine ⟨?_,trivial,trivial⟩
  rw [digN,if_neg (by omega)]
theorem digit_ok:Fits E35 f126 (bodyOf f126) digitLS noAnn:=by
 constructor
 rw [← digit_eq]
 exact digit_vc
theorem f117_has:Has prog 126 f126 (bodyOf f126):=⟨by kernel_rfl,by kernel_rfl,by kernel_rfl⟩
theorem known36:Known prog L36:=by
 unfold L36
 exact known35.lent mixed f117_has E35_eq digit_ok (fun _ _=>Nat.le_refl _) (fun _ _=>rfl)
def rowVC:Prop:=∀ (x:Int),(0:Int)≤x∧x<(10:Int)→(SV.val (A:=AA) (Value.string (ByteArray.mk #[(48:UInt8),(49:UInt8),(50:UInt8),(51:UInt8),
 (52:UInt8),(53:UInt8),(54:UInt8),(55:UInt8),(56:UInt8),(57:UInt8),(97:UInt8),(98:UInt8),(99:UInt8),(100:UInt8),(101 :
 UInt8),(102:UInt8)]))=SV.val (A:=AA) (Value.string (ByteArray.mk #[(48:UInt8),(49:UInt8),(50:UInt8),(51:UInt8),(52:UInt8),(53 :
 UInt8),(54:UInt8),(55:UInt8),(56:UInt8),(57:UInt8),(97:UInt8),(98:UInt8),(99:UInt8),(100:UInt8),(101:UInt8),(102 :
 UInt8)]))∧True)∧(SV.val (A:=AA) (Value.string (ByteArray.mk #[(101:UInt8),(97:UInt8),(52:UInt8),(56:UInt8),(57:UInt8),(102 :
 UInt8),(100:UInt8),(54:UInt8),(49:UInt8),(99:UInt8),(48:UInt8),(50:UInt8),(98:UInt8),(55:UInt8),(53:UInt8),(51:UInt8)]))
 = SV.val (A:=AA) (Value.string (ByteArray.mk #[(101:UInt8),(97:UInt8),(52:UInt8),(56:UInt8),(57:UInt8),(102:UInt8),(100:UInt8),
 (54:UInt8),(49:UInt8),(99:UInt8),(48:UInt8),(50:UInt8),(98:UInt8),(55:UInt8),(53:UInt8),(51:UInt8)]))∧True)∧(SV.val (A:=
 AA) (Value.string (ByteArray.mk #[(98:UInt8),(56:UInt8),(99:UInt8),(48:UInt8),(53:UInt8),(50:UInt8),(102:UInt8),(100:UInt8),(97
 : UInt8),(101:UInt8),(51:UInt8),(54:UInt8),(55:UInt8),(49:UInt8),(57:UInt8),(52:UInt8)]))=SV.val (A:=AA) (Value.string
 (ByteArray.mk #[(98:UInt8),(56:UInt8),(99:UInt8),(48:UInt8),(53:UInt8),(50:UInt8),(102:UInt8),(100:UInt8),(97:UInt8),(101 :
 UInt8),(51:UInt8),(54:UInt8),(55:UInt8),(49:UInt8),(57:UInt8),(52:UInt8)]))∧True)∧(SV.val (A:=AA) (Value.string (ByteArray.mk
 #[(55:UInt8),(57:UInt8),(51:UInt8),(49:UInt8),(100:UInt8),(99:UInt8),(98:UInt8),(101:UInt8),(50:UInt8),(54:UInt8),(53 :
 UInt8),(97:UInt8),(52:UInt8),(48:UInt8),(102:UInt8),(56:UInt8)]))=SV.val (A:=AA) (Value.string (ByteArray.mk #[(55:UInt8),(57 :
 UInt8),(51:UInt8),(49:UInt8),(100:UInt8),(99:UInt8),(98:UInt8),(101:UInt8),(50:UInt8),(54:UInt8),(53:UInt8),(97:UInt8),
 (52:UInt8),(48:UInt8),(102:UInt8),(56:UInt8)]))∧True)∧(SV.val (A:=AA) (Value.string (ByteArray.mk #[(57:UInt8),(48:UInt8),(53 :
 UInt8),(55:UInt8),(50:UInt8),(52:UInt8),(97:UInt8),(102:UInt8),(101:UInt8),(49:UInt8),(98:UInt8),(99:UInt8),(54:UInt8),
 (56:UInt8),(51:UInt8),(100:UInt8)]))=SV.val (A:=AA) (Value.string (ByteArray.mk #[(57:UInt8),(48:UInt8),(53:UInt8),(55:UInt8),
 (50:UInt8),(52:UInt8),(97:UInt8),(102:UInt8),(101:UInt8),(49:UInt8),(98:UInt8),(99:UInt8),(54:UInt8),(56:UInt8),(51 :
 UInt8),(100:UInt8)]))∧True)∧(SV.val (A:=AA) (Value.string (ByteArray.mk #[(50:UInt8),(99:UInt8),(54:UInt8),(97:UInt8),(48 :
 UInt8),(98:UInt8),(56:UInt8),(51:UInt8),(52:UInt8),(100:UInt8),(55:UInt8),(53:UInt8),(102:UInt8),(101:UInt8),(49:UInt8),
 (57:UInt8)]))=SV.val (A:=AA) (Value.string (ByteArray.mk #[(50:UInt8),(99:UInt8),(54:UInt8),(97:UInt8),(48:UInt8),(98:UInt8),
 (56:UInt8),(51:UInt8),(52:UInt8),(100:UInt8),(55:UInt8),(53:UInt8),(102:UInt8),(101:UInt8),(49:UInt8),(57:UInt8)])) ∧
 True)∧(SV.val (A:=AA) (Value.string (ByteArray.mk #[(99:UInt8),(53:UInt8),(49:UInt8),(102:UInt8),(101:UInt8),(100:UInt8),(52 :
 UInt8),(97:UInt8),(48:UInt8),(55:UInt8),(54:UInt8),(51:UInt8),(57:UInt8),(50:UInt8),(56:UInt8),(98:UInt8)]))=SV.val (A:=
 AA) (Value.string (ByteArray.mk #[(99:UInt8),(53:UInt8),(49:UInt8),(102:UInt8),(101:UInt8),(100:UInt8),(52:UInt8),(97:UInt8),
 (48:UInt8),(55:UInt8),(54:UInt8),(51:UInt8),(57:UInt8),(50:UInt8),(56:UInt8),(98:UInt8)]))∧True)∧(SV.val (A:=AA)
 (Value.string (ByteArray.mk #[(100:UInt8),(98:UInt8),(55:UInt8),(101:UInt8),(99:UInt8),(49:UInt8),(51:UInt8),(57:UInt8),(53 :
 UInt8),(48:UInt8),(102:UInt8),(52:UInt8),(56:UInt8),(54:UInt8),(50:UInt8),(97:UInt8)]))=SV.val (A:=AA) (Value.string
 (ByteArray.mk #[(100:UInt8),(98:UInt8),(55:UInt8),(101:UInt8),(99:UInt8),(49:UInt8),(51:UInt8),(57:UInt8),(53:UInt8),(48 :
 UInt8),(102:UInt8),(52:UInt8),(56:UInt8),(54:UInt8),(50:UInt8),(97:UInt8)]))∧True)∧(SV.val (A:=AA) (Value.string (ByteArray.mk
 #[(54:UInt8),(102:UInt8),(101:UInt8),(57:UInt8),(98:UInt8),(51:UInt8),(48:UInt8),(56:UInt8),(99:UInt8),(50:UInt8),(100 :
 UInt8),(55:UInt8),(49:UInt8),(52:UInt8),(97:UInt8),(53:UInt8)]))=SV.val (A:=AA) (Value.string (ByteArray.mk #[(54:UInt8),(102 :
 UInt8),(101:UInt8),(57:UInt8),(98:UInt8),(51:UInt8),(48:UInt8),(56:UInt8),(99:UInt8),(50:UInt8),(100:UInt8),(55:UInt8),
 (49:UInt8),(52:UInt8),(97:UInt8),(53:UInt8)]))∧True)∧(SV.val (A:=AA) (Value.string (ByteArray.mk #[(97:UInt8),(50:UInt8),(56 :
 UInt8),(52:UInt8),(55:UInt8),(54:UInt8),(49:UInt8),(53:UInt8),(102:UInt8),(98:UInt8),(57:UInt8),(101:UInt8),(51:UInt8),
 (99:UInt8),(100:UInt8),(48:UInt8)]))=SV.val (A:=AA) (Value.string (ByteArray.mk #[(97:UInt8),(50:UInt8),(56:UInt8),(52:UInt8),
 (55:UInt8),(54:UInt8),(49:UInt8),(53:UInt8),(102:UInt8),(98:UInt8),(57:UInt8),(101:UInt8),(51:UInt8),(99:UInt8),(100 :
 UInt8),(48:UInt8)]))∧True)∧(0:Int)≤x∧x<(↑[ByteArray.mk #[(48:UInt8),(49:UInt8),(50:UInt8),(51:UInt8),(52:UInt8),(53 :
 UInt8),(54:UInt8),(55:UInt8),(56:UInt8),(57:UInt8),(97:UInt8),(98:UInt8),(99:UInt8),(100:UInt8),(101:UInt8),(102:UInt8)],
 ByteArray.mk #[(101:UInt8),(97:UInt8),(52:UInt8),(56:UInt8),(57:UInt8),(102:UInt8),(100:UInt8),(54:UInt8),(49:UInt8),(99 :
 UInt8),(48:UInt8),(50:UInt8),(98:UInt8),(55:UInt8),(53:UInt8),(51:UInt8)],ByteArray.mk #[(98:UInt8),(56:UInt8),(99:UInt8),
 (48:UInt8),(53:UInt8),(50:UInt8),(102:UInt8),(100:UInt8),(97:UInt8),(101:UInt8),(51:UInt8),(54:UInt8),(55:UInt8),(49 :
 UInt8),(57:UInt8),(52:UInt8)],ByteArray.mk #[(55:UInt8),(57:UInt8),(51:UInt8),(49:UInt8),(100:UInt8),(99:UInt8),(98:UInt8),
 (101:UInt8),(50:UInt8),(54:UInt8),(53:UInt8),(97:UInt8),(52:UInt8),(48:UInt8),(102:UInt8),(56:UInt8)],ByteArray.mk #[(57 :
 UInt8),(48:UInt8),(53:UInt8),(55:UInt8),(50:UInt8),(52:UInt8),(97:UInt8),(102:UInt8),(101:UInt8),(49:UInt8),(98:UInt8),
 (99:UInt8),(54:UInt8),(56:UInt8),(51:UInt8),(100:UInt8)],ByteArray.mk #[(50:UInt8),(99:UInt8),(54:UInt8),(97:UInt8),(48 :
 UInt8),(98:UInt8),(56:UInt8),(51:UInt8),(52:UInt8),(100:UInt8),(55:UInt8),(53:UInt8),(102:UInt8),(101:UInt8),(49:UInt8),
 (57:UInt8)],ByteArray.mk #[(99:UInt8),(53:UInt8),(49:UInt8),(102:UInt8),(101:UInt8),(100:UInt8),(52:UInt8),(97:UInt8),(48 :
 UInt8),(55:UInt8),(54:UInt8),(51:UInt8),(57:UInt8),(50:UInt8),(56:UInt8),(98:UInt8)],ByteArray.mk #[(100:UInt8),(98:UInt8),
 (55:UInt8),(101:UInt8),(99:UInt8),(49:UInt8),(51:UInt8),(57:UInt8),(53:UInt8),(48:UInt8),(102:UInt8),(52:UInt8),(56 :
 UInt8),(54:UInt8),(50:UInt8),(97:UInt8)],ByteArray.mk #[(54:UInt8),(102:UInt8),(101:UInt8),(57:UInt8),(98:UInt8),(51:UInt8),
 (48:UInt8),(56:UInt8),(99:UInt8),(50:UInt8),(100:UInt8),(55:UInt8),(49:UInt8),(52:UInt8),(97:UInt8),(53:UInt8)],
 ByteArray.mk #[(97:UInt8),(50:UInt8),(56:UInt8),(52:UInt8),(55:UInt8),(54:UInt8),(49:UInt8),(53:UInt8),(102:UInt8),(98 :
 UInt8),(57:UInt8),(101:UInt8),(51:UInt8),(99:UInt8),(100:UInt8),(48:UInt8)]].length:Int)∧x.toNat<[ByteArray.mk #[(48:UInt8),
 (49:UInt8),(50:UInt8),(51:UInt8),(52:UInt8),(53:UInt8),(54:UInt8),(55:UInt8),(56:UInt8),(57:UInt8),(97:UInt8),(98 :
 UInt8),(99:UInt8),(100:UInt8),(101:UInt8),(102:UInt8)],ByteArray.mk #[(101:UInt8),(97:UInt8),(52:UInt8),(56:UInt8),(57 :
 UInt8),(102:UInt8),(100:UInt8),(54:UInt8),(49:UInt8),(99:UInt8),(48:UInt8),(50:UInt8),(98:UInt8),(55:UInt8),(53:UInt8),
 (51:UInt8)],ByteArray.mk #[(98:UInt8),(56:UInt8),(99:UInt8),(48:UInt8),(53:UInt8),(50:UInt8),(102:UInt8),(100:UInt8),(97 :
 UInt8),(101:UInt8),(51:UInt8),(54:UInt8),(55:UInt8),(49:UInt8),(57:UInt8),(52:UInt8)],ByteArray.mk #[(55:UInt8),(57:UInt8),
 (51:UInt8),(49:UInt8),(100:UInt8),(99:UInt8),(98:UInt8),(101:UInt8),(50:UInt8),(54:UInt8),(53:UInt8),(97:UInt8),(52 :
 UInt8),(48:UInt8),(102:UInt8),(56:UInt8)],ByteArray.mk #[(57:UInt8),(48:UInt8),(53:UInt8),(55:UInt8),(50:UInt8),(52:UInt8),
 (97:UInt8),(102:UInt8),(101:UInt8),(49:UInt8),(98:UInt8),(99:UInt8),(54:UInt8),(56:UInt8),(51:UInt8),(100:UInt8)],
 ByteArray.mk #[(50:UInt8),(99:UInt8),(54:UInt8),(97:UInt8),(48:UInt8),(98:UInt8),(56:UInt8),(51:UInt8),(52:UInt8),(100 :
 UInt8),(55:UInt8),(53:UInt8),(102:UInt8),(101:UInt8),(49:UInt8),(57:UInt8)],ByteArray.mk #[(99:UInt8),(53:UInt8),(49:UInt8),
 (102:UInt8),(101:UInt8),(100:UInt8),(52:UInt8),(97:UInt8),(48:UInt8),(55:UInt8),(54:UInt8),(51:UInt8),(57:UInt8),(50 :
 UInt8),(56:UInt8),(98:UInt8)],ByteArray.mk #[(100:UInt8),(98:UInt8),(55:UInt8),(101:UInt8),(99:UInt8),(49:UInt8),(51:UInt8),
 (57:UInt8),(53:UInt8),(48:UInt8),(102:UInt8),(52:UInt8),(56:UInt8),(54:UInt8),(50:UInt8),(97:UInt8)],ByteArray.mk #[(54 :
 UInt8),(102:UInt8),(101:UInt8),(57:UInt8),(98:UInt8),(51:UInt8),(48:UInt8),(56:UInt8),(99:UInt8),(50:UInt8),(100:UInt8),
 (55:UInt8),(49:UInt8),(52:UInt8),(97:UInt8),(53:UInt8)],ByteArray.mk #[(97:UInt8),(50:UInt8),(56:UInt8),(52:UInt8),(55 :
 UInt8),(54:UInt8),(49:UInt8),(53:UInt8),(102:UInt8),(98:UInt8),(57:UInt8),(101:UInt8),(51:UInt8),(99:UInt8),(100:UInt8),
 (48:UInt8)]].length∧∀ (y:AA (9:Nat)),[ByteArray.mk #[(48:UInt8),(49:UInt8),(50:UInt8),(51:UInt8),(52:UInt8),(53:UInt8),(54 :
 UInt8),(55:UInt8),(56:UInt8),(57:UInt8),(97:UInt8),(98:UInt8),(99:UInt8),(100:UInt8),(101:UInt8),(102:UInt8)],ByteArray.mk
 #[(101:UInt8),(97:UInt8),(52:UInt8),(56:UInt8),(57:UInt8),(102:UInt8),(100:UInt8),(54:UInt8),(49:UInt8),(99:UInt8),(48 :
 UInt8),(50:UInt8),(98:UInt8),(55:UInt8),(53:UInt8),(51:UInt8)],ByteArray.mk #[(98:UInt8),(56:UInt8),(99:UInt8),(48:UInt8),
 (53:UInt8),(50:UInt8),(102:UInt8),(100:UInt8),(97:UInt8),(101:UInt8),(51:UInt8),(54:UInt8),(55:UInt8),(49:UInt8),(57 :
 UInt8),(52:UInt8)],ByteArray.mk #[(55:UInt8),(57:UInt8),(51:UInt8),(49:UInt8),(100:UInt8),(99:UInt8),(98:UInt8),(101:UInt8),
 (50:UInt8),(54:UInt8),(53:UInt8),(97:UInt8),(52:UInt8),(48:UInt8),(102:UInt8),(56:UInt8)],ByteArray.mk #[(57:UInt8),(48 :
 UInt8),(53:UInt8),(55:UInt8),(50:UInt8),(52:UInt8),(97:UInt8),(102:UInt8),(101:UInt8),(49:UInt8),(98:UInt8),(99:UInt8),
 (54:UInt8),(56:UInt8),(51:UInt8),(100:UInt8)],ByteArray.mk #[(50:UInt8),(99:UInt8),(54:UInt8),(97:UInt8),(48:UInt8),(98 :
 UInt8),(56:UInt8),(51:UInt8),(52:UInt8),(100:UInt8),(55:UInt8),(53:UInt8),(102:UInt8),(101:UInt8),(49:UInt8),(57:UInt8)],
 ByteArray.mk #[(99:UInt8),(53:UInt8),(49:UInt8),(102:UInt8),(101:UInt8),(100:UInt8),(52:UInt8),(97:UInt8),(48:UInt8),(55 :
 UInt8),(54:UInt8),(51:UInt8),(57:UInt8),(50:UInt8),(56:UInt8),(98:UInt8)],ByteArray.mk #[(100:UInt8),(98:UInt8),(55:UInt8),
 (101:UInt8),(99:UInt8),(49:UInt8),(51:UInt8),(57:UInt8),(53:UInt8),(48:UInt8),(102:UInt8),(52:UInt8),(56:UInt8),(54 :
 UInt8),(50:UInt8),(97:UInt8)],ByteArray.mk #[(54:UInt8),(102:UInt8),(101:UInt8),(57:UInt8),(98:UInt8),(51:UInt8),(48:UInt8),
 (56:UInt8),(99:UInt8),(50:UInt8),(100:UInt8),(55:UInt8),(49:UInt8),(52:UInt8),(97:UInt8),(53:UInt8)],ByteArray.mk #[(97 :
 UInt8),(50:UInt8),(56:UInt8),(52:UInt8),(55:UInt8),(54:UInt8),(49:UInt8),(53:UInt8),(102:UInt8),(98:UInt8),(57:UInt8),
 (101:UInt8),(51:UInt8),(99:UInt8),(100:UInt8),(48:UInt8)]][x.toNat]?=some y→SV.val (A:=AA) (Value.string (rowsB.getD x.toNat
 ByteArray.empty))=SV.val (A:=AA) (Value.string y)∧True∧True
theorem row_eq:rowVC=fnS E36 f124 (bodyOf f124) rowLS noAnn:=by kernel_rfl
theorem row_vc:rowVC:=by
 rintro r ⟨h1,h2⟩
 refine ⟨⟨rfl,trivial⟩,⟨rfl,trivial⟩,⟨rfl,trivial⟩,⟨rfl,trivial⟩,⟨rfl,trivial⟩,⟨rfl,trivial⟩,⟨rfl,trivial⟩,⟨rfl,trivial⟩,⟨rfl,trivial⟩,⟨rfl,trivial⟩,h1,by simpa using h2,by simp; omega,fun y hy=>⟨?_,trivial,trivial⟩⟩
 change rowsB[r.toNat]?=some y at hy
 rw [List.getD_eq_getElem?_getD,hy]
 rfl
theorem row_ok:Fits E36 f124 (bodyOf f124) rowLS noAnn:=by
 constructor
 rw [← row_eq]
 exact row_vc
theorem f115_has:Has prog 124 f124 (bodyOf f124):=⟨by kernel_rfl,by kernel_rfl,by kernel_rfl⟩
theorem known37:Known prog L37:=by
 unfold L37
 exact known36.lent mixed f115_has E36_eq row_ok (fun _ _=>Nat.le_refl _) (fun _ _=>rfl)
end Go.Proofs.YthkffadomgcdaaaGreatDoor

/-! BLAKE2s, a block taken in: what it says, the program's and the document's. Conditions: none. -/
namespace Go.Proofs.YthkffadomgcdaaaGreatDoor
open Go Go.Eng Go.Proofs.Tryz
structure TakeX where
 h:List Int
 b:List Int
 t:Int
 wait:List Int
 t0:Int
 n0:Int
structure TakeX.Ok (x:TakeX):Prop where
 h:x.h.length=8
 b:x.b.length=64
 bytes:∀ y,y∈x.b→0≤y∧y<256
 t0:0≤x.t
 t1:x.t<18446744073709551616
def TakeX.out (x:TakeX) (last:Bool):List Int:=takeB orderL x.h x.b x.t.toNat last
def TakeX.v (x:TakeX) (last:Bool) (k:Nat):List Int:=gN orderL (wordsB x.b) (v0B x.h x.t.toNat last) k
def stateSL (h:List Int) (w:SV AA) (t n:Int):SL AA := .run .u32 8 h (.cell w (.cell (.int .u64 t) (.cell (.int .i64 n) .nil)))
def takeALS:LS AA where
 X:=TakeX
 pre:=TakeX.Ok
 args:=fun x=>[.ptr 0 0,.agg (.run .u8 64 x.b .nil),.int .u64 x.t,.bl false]
 hin:=fun x=>[.cells 179 (stateSL x.h (.vec 1) x.t0 x.n0),.ivec 5 .u8 x.wait]
 res:=fun _=>[]
 hout:=fun x=>[.cells 179 (stateSL (x.out false) (.vec 1) x.t0 x.n0),.ivec 5 .u8 x.wait]
def takeBLS:LS AA where
 X:=TakeX
 pre:=TakeX.Ok
 args:=fun x=>[.ptr 0 0,.agg (.run .u8 64 x.b .nil),.int .u64 x.t,.bl true]
 hin:=fun x=>[.cells 176 (.run .u32 8 x.h .nil)]
 res:=fun _=>[]
 hout:=fun x=>[.cells 176 (.run .u32 8 (x.out true) .nil)]
/-- The first i of some, the others as they were. -/
def upto (i:Nat) (new old:List Int):List Int:=new.take i++old.drop i
def takeAnn (l:Bool) (n:Nat) (hc:List Int→SO AA) (x:TakeX):Anns AA:=fun r ts _=>cond (Nat.beq r 4)
 (some { X:=Nat,inv:=fun i=>i≤16,meas:=fun i=>16-i,slots:=fun i=>[(17,.int .i64 i)],heap:=fun i=>[(n+1,.cells 244 (.run .u32 16 (upto i (wordsB x.b) (List.replicate 16 0)) .nil))] })
 (cond (Nat.beq r 16)
 (some { X:=Nat,inv:=fun i=>i≤10,meas:=fun i=>10-i,slots:=fun i=>[(79,.int .i64 i)],heap:=fun i=>[(n+2,.cells 244 (.run .u32 16 (x.v l (8*i)) .nil))] })
 (cond (Nat.beq r 31)
 (some { X:=Nat,inv:=fun i=>i≤8,meas:=fun i=>8-i,slots:=fun i=>[(143,.int .i64 i)],heap:=fun i=>[(0,hc (upto i (x.out l) x.h))] })
 (match nth ts 12 with
 | some (.int _ q)=>cond (Nat.beq r 20)
  (some { X:=Nat,inv:=fun i=>i≤4,meas:=fun i=>4-i,slots:=fun i=>[(85,.int .i64 i)],heap:=fun i=>[(n+2,.cells 244 (.run .u32 16 (x.v l (8*q.toNat+i)) .nil))] })
  (some { X:=Nat,inv:=fun i=>i≤4,meas:=fun i=>4-i,slots:=fun i=>[(110,.int .i64 i)],heap:=fun i=>[(n+2,.cells 244 (.run .u32 16 (x.v l (8*q.toNat+4+i)) .nil))] })
 | _=>none)))
def takeAnnA (x:TakeX):Anns AA:=takeAnn false 2 (fun h => .cells 179 (stateSL h (.vec 1) x.t0 x.n0)) x
def takeAnnB (x:TakeX):Anns AA:=takeAnn true 1 (fun h => .cells 176 (.run .u32 8 h .nil)) x
end Go.Proofs.YthkffadomgcdaaaGreatDoor

/-! BLAKE2s, a block taken in: what its words are. Conditions: none. -/
namespace Go.Proofs.YthkffadomgcdaaaGreatDoor
open Go Go.Eng Go.Proofs.Tryz
theorem or_nat {a b:Nat} (ha:a<4294967296) (hb:b<4294967296):bitop .or .u32 (a:Int) (b:Int)=((a ||| b:Nat):Int):=by
 rw [or_bv,BitVec.toNat_or]
 have h1:(BitVec.ofInt 32 (a:Int)).toNat=a:=by simp; omega
 have h2:(BitVec.ofInt 32 (b:Int)).toNat=b:=by simp; omega
 rw [h1,h2]
theorem or_add {a b i:Nat} (ha:a<2 ^ i) (h:2 ^ i*b+a<4294967296):bitop .or .u32 (a:Int) ((2 ^ i*b:Nat):Int)=((2 ^ i*b+a:Nat):Int):=by
 rw [or_nat (by omega) (by omega),Nat.or_comm,Nat.two_pow_add_eq_or_of_lt ha b]
theorem shl_byte {q:Nat} (hq:q<256) (n:Nat) (hn:n=8∨n=16∨n=24):shl .u32 (wr .u32 (q:Int)) ((n:Nat):Int)=((2 ^ n*q:Nat):Int):=by
 rw [wr32]
 rcases hn with rfl | rfl | rfl
 ·show wr .u32 (((q:Int)%4294967296)*256)=_
  rw [wr32]; omega
 ·show wr .u32 (((q:Int)%4294967296)*65536)=_
  rw [wr32]; omega
 ·show wr .u32 (((q:Int)%4294967296)*16777216)=_
  rw [wr32]; omega
theorem word_or {p q r s:Int} (hp:0≤p∧p<256) (hq:0≤q∧q<256) (hr:0≤r∧r<256) (hs:0≤s∧s<256) :
  bitop .or .u32 (bitop .or .u32 (bitop .or .u32 (wr .u32 p) (shl .u32 (wr .u32 q) 8)) (shl .u32 (wr .u32 r) 16)) (shl .u32 (wr .u32 s) 24)=p+256*q+65536*r+16777216*s:=by
 obtain ⟨p,rfl⟩:=Int.eq_ofNat_of_zero_le hp.1
 obtain ⟨q,rfl⟩:=Int.eq_ofNat_of_zero_le hq.1
 obtain ⟨r,rfl⟩:=Int.eq_ofNat_of_zero_le hr.1
 obtain ⟨s,rfl⟩:=Int.eq_ofNat_of_zero_le hs.1
 have h1:wr .u32 (p:Int)=(p:Int):=by rw [wr32]; omega
 have h8:=shl_byte (q:=q) (by omega) 8 (.inl rfl)
 have h16:=shl_byte (q:=r) (by omega) 16 (.inr (.inl rfl))
 have h24:=shl_byte (q:=s) (by omega) 24 (.inr (.inr rfl))
 rw [h1,show (8:Int)=((8:Nat):Int) from rfl,h8,or_add (by omega) (by omega),show (16:Int)=((16:Nat):Int) from rfl,h16,or_add (by omega) (by omega),show (24:Int)=((24:Nat):Int) from rfl,h24,or_add (by omega) (by omega)]
 omega
theorem getD_byte {b:List Int} (h:∀ y,y∈b→0≤y∧y<256) (i:Nat):0≤b.getD i 0∧b.getD i 0<256:=by
 rw [List.getD_eq_getElem?_getD]
 cases e:b[i]? with
 | none=>simp
 | some y=>exact h y (List.mem_of_getElem? e)
theorem word_at {b:List Int} (h:∀ y,y∈b→0≤y∧y<256) (i:Nat) :
  bitop .or .u32 (bitop .or .u32 (bitop .or .u32 (wr .u32 (b.getD ((4:Int)*(i:Int)).toNat 0)) (shl .u32 (wr .u32 (b.getD ((4:Int)*(i:Int)+1).toNat 0)) 8)) (shl .u32 (wr .u32 (b.getD ((4:Int)*(i:Int)+2).toNat 0)) 16)) (shl .u32 (wr .u32 (b.getD ((4:Int)*(i:Int)+3).toNat 0)) 24)=wordB b i:=by
 rw [word_or (getD_byte h _) (getD_byte h _) (getD_byte h _) (getD_byte h _)]
 have e0:((4:Int)*(i:Int)).toNat=4*i:=by omega
 have e1:((4:Int)*(i:Int)+1).toNat=4*i+1:=by omega
 have e2:((4:Int)*(i:Int)+2).toNat=4*i+2:=by omega
 have e3:((4:Int)*(i:Int)+3).toNat=4*i+3:=by omega
 rw [e0,e1,e2,e3]
 rfl
theorem upto_zero (new old:List Int):upto 0 new old=old:=by simp [upto]
theorem upto_all {new old:List Int} {n:Nat} (h1:new.length=n) (h2:old.length=n):upto n new old=new:=by
 unfold upto
 rw [List.take_of_length_le (by omega),List.drop_of_length_le (by omega),List.append_nil]
theorem upto_get {new old:List Int} {i:Nat} (h:i≤new.length) (k:Nat):(upto i new old)[k]?=if k<i then new[k]? else old[k]?:=by
 unfold upto
 split
 ·rename_i hk
  rw [List.getElem?_append_left (by simp; omega),List.getElem?_take,if_pos hk]
 ·rename_i hk
  rw [List.getElem?_append_right (by simp; omega),List.getElem?_drop]
  congr 1
  simp
  omega
theorem upto_set {new old:List Int} {i n:Nat} (h1:new.length=n) (h2:old.length=n) (hi:i<n) {y:Int} (hy:new.getD i 0=y):(upto i new old).set i y=upto (i+1) new old:=by
 have hlen:(upto i new old).length=n:=by simp [upto]; omega
 apply List.ext_getElem?
 intro k
 rw [upto_get (by omega)]
 by_cases e:i=k
 ·subst e
  rw [List.getElem?_set_self (by omega),if_pos (by omega),← hy]
  rw [List.getD_eq_getElem?_getD,List.getElem?_eq_getElem (by omega)]
  rfl
 ·rw [List.getElem?_set_ne e,upto_get (by omega)]
  by_cases hk:k<i
  ·rw [if_pos hk,if_pos (by omega)]
  ·rw [if_neg hk,if_neg (by omega)]
theorem upto_getD {new old:List Int} {i n k:Nat} (h1:new.length=n) (hi:i≤n) (hk:i≤k):(upto i new old).getD k 0=old.getD k 0:=by
 rw [List.getD_eq_getElem?_getD,upto_get (by omega),if_neg (by omega),← List.getD_eq_getElem?_getD]
theorem list8 {h:List Int} (hl:h.length=8):∃ a b c d e f g i,h=[a,b,c,d,e,f,g,i]:=by
 match h,hl with
 | [a,b,c,d,e,f,g,i],_=>exact ⟨a,b,c,d,e,f,g,i,rfl⟩
theorem wordsB_len (b:List Int):(wordsB b).length=16:=by simp [wordsB]
theorem wordsB_get (b:List Int) {i:Nat} (hi:i<16):(wordsB b).getD i 0=wordB b i:=by
 simp [wordsB,List.getD_eq_getElem?_getD,hi]
theorem ord_all:∀ y,y∈orderL→0≤y∧y<16:=by
 have h:orderL.all (fun y=>decide (0≤y∧y<16))=true:=by decide
 intro y hy
 simpa using List.all_eq_true.1 h y hy
theorem ordT (r k:Nat):0≤((orderL.drop (r*16)).take 16).getD k 0∧((orderL.drop (r*16)).take 16).getD k 0<16:=by
 rw [List.getD_eq_getElem?_getD]
 cases e:((orderL.drop (r*16)).take 16)[k]? with
 | none=>simp
 | some y=>exact ord_all y (List.mem_of_mem_drop (List.mem_of_mem_take (List.mem_of_getElem? e)))
theorem ordR (r:Nat) {k:Nat} (hk:k<16):((orderL.drop (r*16)).take 16).getD k 0=orderL.getD (16*r+k) 0:=by
 rw [List.getD_eq_getElem?_getD,List.getD_eq_getElem?_getD,List.getElem?_take,if_pos hk,List.getElem?_drop,Nat.mul_comm]
theorem gstep_at {m v:List Int} {r i:Nat} (hi:i<8) (a b c d:Int) (ha:a=pl i 0) (hb:b=pl i 1) (hc:c=pl i 2) (hd:d=pl i 3) :
  gstep orderL m v (8*r+i)=stepB v a b c d (m.getD (((orderL.drop (r*16)).take 16).getD (2*i) 0).toNat 0) (m.getD (((orderL.drop (r*16)).take 16).getD (2*i+1) 0).toNat 0):=by
 unfold gstep
 rw [show (8*r+i)%8=i from by omega,show (8*r+i) / 8=r from by omega,← ordR r (k:=2*i) (by omega),show 16*r+2*i+1=16*r+(2*i+1) from rfl,← ordR r (k:=2*i+1) (by omega),ha,hb,hc,hd]
 rfl
theorem v0_eq {h:List Int} (hl:h.length=8):List.take 8 (copyInts (List.replicate 16 0) h)++(copyInts (List.take 8 (List.drop 8 (copyInts (List.replicate 16 0) h))) ivB++List.drop 16 (copyInts (List.replicate 16 0) h))=h++ivB:=by
 obtain ⟨a,b,c,d,e,f,g,i,rfl⟩:=list8 hl
 rfl
theorem v0B_len {h:List Int} (hl:h.length=8) (t:Nat) (last:Bool):(v0B h t last).length=16:=by
 cases last<;>simp [v0B,hl,ivB]
theorem takeB_get {ord h b:List Int} {t:Nat} {last:Bool} {i:Nat} (hi:i<8):(takeB ord h b t last).getD i 0=x32 (x32 (h.getD i 0) ((gN ord (wordsB b) (v0B h t last) 80).getD i 0)) ((gN ord (wordsB b) (v0B h t last) 80).getD (i+8) 0):=by
 simp [takeB,List.getD_eq_getElem?_getD,hi]
end Go.Proofs.YthkffadomgcdaaaGreatDoor
