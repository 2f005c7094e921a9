/- Part 2 of the texts behind the last one: what they say stands ahead of each. Conditions: none. -/
import Derived.Test.YthkffadomgcdaaaGreatDoorMf1
import Derived.Lib.AppendZeros
import Derived.MapKept
import Derived.Lib.SlBytesConst
import Derived.Laws.IdiomRangeMap
import Derived.OrdersHeld
import Derived.LoopN
/-! The engine's operations are right: len, min, max, copy, slices and arrays that are written out. Conditions: none. -/
namespace Go.Eng
open Go
variable {A:Nat→Type}
section
variable {E:Eng A} {O:Nat→Prop} {ts:List (SV A)} {sh:List (SO A)} {env:List Wit} {a:Act} {w:World} {o:Oper} {K:Pred A} {C:Enc A}
theorem op_len {c:Call} {t:TypeId} {x:Operand} (ho:o.op = .call c) (hc:c.callee = .builtin .len) (hat:c.argTypes=#[t]) (har:c.args=#[x]) (hnm:∀ k v,desc E.P t ≠ .map k v) (h:Rel E O ts sh env a w)
  (hk:builtinS E .len [t] [evr E ts sh x] sh K):OpY E O o sh env a w K:=by
 have hx:=evr_rep h x
 have key:∀ (v:Value) (s:SV A),(∀ w',(Builtin.len_ #[t] o.type #[a.eval x]).run E.P w' = .ok v w')→Rep O env w E.C s v→K s sh→OpY E O o sh env a w K:=by
  intro v s hrun hr hK
  exact opY_same (fun w'=>callee_builtin hc ho (f:=Builtin.len_) (fun _ _ _ _=>rfl) (by rw [hat,har]; simp only [List.map_toArray,List.map_cons,List.map_nil]; exact hrun w')) hr hK
 generalize evr E ts sh x=sx at hx hk
 generalize a.eval x=vx at hx key
 simp only [builtinS] at hk
 split at hk
 ·rename_i e hd
  have hu:=under_of_desc hd (by simp)
  split at hk
  ·exact hk.elim
  ·rename_i hns
   split at hk
   ·rename_i n l hl
    rcases lenS_slice h.heap hl hx with ⟨ad,m,c2,hv,hn,hm1,hm2⟩ | ⟨str,hs,_⟩
    ·subst hv
     split at hk
     ·refine key (.int .i64 (m:Nat)) _ (fun w'=>?_) (by rw [hn]; exact .lit) hk
      simp [Builtin.len_,run_underlying hu,goInt]
     ·refine key (.int .i64 (m:Nat)) _ (fun w'=>?_) (by rw [hn]; exact .int) (hk ?_)
      ·simp [Builtin.len_,run_underlying hu,goInt]
      ·simp only [maxLen] at hm2; omega
    ·exact (hns str hs).elim
   ·exact hk.elim
 ·rename_i n e hd
  have hu:=under_of_desc hd (by simp)
  exact key (.int .i64 (n:Nat)) _ (fun w'=>by simp [Builtin.len_,run_underlying hu,goInt]) .lit hk
 ·rename_i hd; exact (hnm _ _ hd).elim
 ·exact hk.elim
/-- Bytes, as a string. -/
theorem run_bytes {P:Program} {s d e:TypeId} {v:Value} {xs:List Int} (hs:P.underlying s=some (.slice e)) (he:P.underlying e=some (.int .u8)) (hd:P.underlying d=some .string) (hr:Reads w v xs.length (xs.map (Value.int .u8))) :
  (Go.convert s d v).run P w = .ok (.string (strOfNums xs)) w:=by
 have hnil:∀ ad c,xs=[]→v = .slice ad 0 c→(Go.convert s d v).run P w = .ok (.string (strOfNums xs)) w:=by
  intro ad c hx hv
  subst hx; subst hv
  cases ad with
  | none=>exact run_convert_bytes_nil w s e hs he 0 c d hd
  | some ad=>
   rw [run_convert_bytes_string w s d e _ 0 c hs he hd,run_bytesToString w ad 0 c [] (by simp [loadCells,loadCellsFrom])]
   rfl
 rcases hr with ⟨ad,c,hv,h2⟩ | ⟨h2,h3,ad,c,hv⟩
 ·rcases h2 with ⟨h3,h4,h5⟩ | ⟨b,o',h3,hc⟩
  ·exact hnil ad c (List.eq_nil_of_length_eq_zero h4) (by rw [hv,h4])
  ·subst hv; subst h3
   refine run_convert_bytes_arg w s e hs he b o' xs.length c xs rfl (fun i hi=>?_) d hd
   refine hc i _ ?_
   rw [List.getElem?_map,List.getElem?_eq_getElem hi,List.getD_eq_getElem?_getD,List.getElem?_eq_getElem hi]
   rfl
 ·exact hnil ad c (by simpa using h2) (by rw [hv])
theorem op_convertA {s d:TypeId} {x:Operand} (ho:o.op = .convert s d x) (h:Rel E O ts sh env a w) (hk:convS E s d (evr E ts sh x) sh fun v=>K v sh):OpOK E O o sh env a w K:=by
 have hk0:=hk
 unfold convS at hk
 split at hk
 ·rename_i k1 e1
  exact (op_convert ho e1 h hk0).ok h
 ·unfold bytesS at hk
  split at hk
  case h_2=>exact hk.elim
  rename_i e he
  split at hk
  case h_2=>exact hk.elim
  rename_i hd
  split at hk
  case h_2=>exact hk.elim
  rename_i hu8
  split at hk
  case h_2=>exact hk.elim
  rename_i k xs hxs
  split at hk
  case isFalse=>exact hk.elim
  rename_i hkk
  have hrd:=ints_reads h.heap hxs hkk (evr_rep h x)
  have hrun:=run_bytes (under_of_desc he (by simp)) (under_of_desc hu8 (by simp)) (under_of_desc hd (by simp)) hrd
  exact opOK_same (v := .string (strOfNums xs)) (by simp only [execOp,ho,Sem.run_bind,hrun]; rfl) .val h hk
theorem op_cap {c:Call} {t:TypeId} {x:Operand} (ho:o.op = .call c) (hc:c.callee = .builtin .cap) (hat:c.argTypes=#[t]) (har:c.args=#[x]) (h:Rel E O ts sh env a w)
  (hk:builtinS E .cap [t] [evr E ts sh x] sh K):OpOK E O o sh env a w K:=by
 have hx:=evr_rep h x
 generalize evr E ts sh x=sx at hx hk
 simp only [builtinS] at hk
 split at hk
 ·rename_i e hd
  have hu:=under_of_desc hd (by simp)
  split at hk
  ·refine opOK_same (v := .int .i64 0) (callee_builtin hc ho (f:=Builtin.cap_) (fun _ _ _ _=>rfl) ?_) .lit h hk
   rw [hat,har]
   simp only [List.map_toArray,List.map_cons,List.map_nil,hx.inv_val]
   simp [Builtin.cap_,run_underlying hu,goInt]
  ·exact hk.elim
 ·exact hk.elim
theorem tyZero_int {P:Program} {e:TypeId} {k:IntKind} {z:SL A} (hz:tyZero P e=some z) (hk:intT P e=some k):z = .cell (.lit k 0) .nil:=by
 unfold tyZero at hz
 split at hz
 ·split at hz
  ·split at hz
   ·rename_i cs hcs
    split at hz
    ·cases hz
     unfold intT at hk
     split at hk
     ·rename_i k' hd
      cases hk
      simp [zeroSL,hd] at hcs
      exact hcs.symm
     ·cases hk
    ·cases hz
   ·cases hz
  ·cases hz
 ·cases hz
theorem zeroCells_one (v:Value) (n:Nat):Builtin.zeroCells #[v] n=Array.replicate n v:=by
 unfold Builtin.zeroCells
 apply Array.ext
 ·simp
 ·intro i h1 h2
  simp [Nat.mod_one]
/-- An append of zeros to nothing: what it comes to. -/
theorem run_appendZS {t u:TypeId} {x y:Operand} (ty:TypeId) (h:Rel E O ts sh env a w) (hk:appendZS E t u (evr E ts sh x) (evr E ts sh y) sh K) :
  ∃ v w' s sh' env',(Builtin.append_ #[t,u] ty #[a.eval x,a.eval y]).run E.P w = .ok v w'∧Rep O env' w' E.C s v∧HR O env' w' E.C sh'∧Step env w env' w'∧w.grownBy w' none∧K s sh':=by
 have hx:=evr_rep h x
 have hy:=evr_rep h y
 generalize evr E ts sh x=sx at hx hk
 generalize evr E ts sh y=sy at hy hk
 generalize a.eval x=vx at hx ⊢
 generalize a.eval y=vy at hy ⊢
 unfold appendZS at hk
 split at hk
 case h_2=>exact hk.elim
 rename_i e ku k0 n l hd hdu hn
 have hu:=under_of_desc hd (by simp)
 have huu:=under_of_desc hdu (by simp)
 rw [rep_asInt hn hy]
 split at hk
 case h_2=>exact hk.elim
 rw [hx.inv_val]
 split at hk
 case h_2=>exact hk.elim
 rename_i z k hz hk0
 split at hk
 case isFalse=>exact hk.elim
 rename_i hs1
 obtain ⟨hn0,hb,hb2,hK⟩:=hk
 obtain ⟨i,zv,hi,hiz,hr⟩:=tyZero_spec hz
 have his:i.size=1:=by simpa [tsize,hi] using hs1
 have hbi:tbytes E.P e=i.bytes:=by simp [tbytes,hi]
 rw [hbi] at hb
 have hzc:zv.cells=#[.int k 0]:=by
  have h1:=hr (fun _=>False) [] w (⟨fun _ _ => .nil,fun _=>0,fun _=>false⟩:Enc A)
  rw [tyZero_int hz hk0] at h1
  obtain ⟨u1,us,h2,h3,h4⟩:=h1.inv_cell
  rw [h4.inv_nil,h3.inv_lit] at h2
  exact Array.toList_inj.1 h2
 obtain ⟨m,rfl⟩:∃ m:Nat,n=m:=⟨n.toNat,by omega⟩
 rw [Int.toNat_natCast,snoc_eq] at hK
 by_cases hm:m=0
 ·subst hm
  have hg:w.grownBy w none:=⟨rfl,rfl,rfl,Nat.le_refl _,fun _ _ _=>rfl⟩
  obtain ⟨h3,h4,h5⟩:=vec_push h.heap (v' := .slice none 0 0) (w':=w) hg (.inl rfl) (fun b hb=>by simp [Value.ownBlock] at hb) (.ivec e k (List.replicate 0 0)) (fun _=>World.ownsRow_nil w 0 e 1)
  refine ⟨_,_,_,_,_,?_,h5,h3,h4,hg,hK⟩
  have hw0:IntKind.i64.wrap 0=0:=by decide
  simp [Builtin.append_,run_underlying hu,run_underlying huu,sizeOf,typeInfo,hi,Go.asInt,asIntOf,hw0]
 ·have hrun:=Lib.run_append_nil_zeros (P:=E.P) w t u ty e i zv k0 ku hu huu hi hiz m (by omega) (by omega) (by omega) (by omega)
  rw [hzc,zeroCells_one,zeroCells_one] at hrun
  have hge:=grownCap_ge w m 0 e
  have hcm:grownCap w m 0 e≤maxLen:=grownCap_le_maxLen w m 0 e (by unfold maxLen; omega)
  have hg:w.grownBy (w.drew.alloc (.cells (Array.replicate m (Value.int k 0)++Array.replicate (grownCap w m 0 e-m) (Value.int k 0)) e)) none:=⟨rfl,rfl,rfl,by simp,fun k hk _=>heap_alloc_old w.drew _ hk⟩
  obtain ⟨h3,h4,h5⟩:=vec_push h.heap (v' := .slice (some ⟨w.heap.size,0,none⟩) m (grownCap w m 0 e)) (w':=w.drew.alloc (.cells (Array.replicate m (Value.int k 0)++Array.replicate (grownCap w m 0 e-m) (Value.int k 0)) e)) hg (.inr rfl) (fun b hb=>by
    simp only [Value.ownBlock,Option.some.injEq] at hb
    subst hb
    simp) (.ivec e k (List.replicate m 0)) (fun _=>by
    refine ⟨by simp,.inr ⟨w.heap.size,_,_,by simp,Nat.zero_le _,heap_alloc_new w.drew _,by simpa using hge,hcm,by simp; omega,?_⟩⟩
    simp)
  exact ⟨_,_,_,_,_,hrun,h5,h3,h4,hg,hK⟩
/-- An append of zeros to nothing. -/
theorem op_appendZ {c:Call} {t u:TypeId} {x y:Operand} (ho:o.op = .call c) (hc:c.callee = .builtin .append) (hat:c.argTypes=#[t,u]) (har:c.args=#[x,y]) (h:Rel E O ts sh env a w)
  (hk:appendZS E t u (evr E ts sh x) (evr E ts sh y) sh K):OpOK E O o sh env a w K:=by
 obtain ⟨v,w',s,sh',env',hrun,hr,hh,hs,_,hK⟩:=run_appendZS o.type h hk
 exact opOK_of_run (callee_builtin hc ho (f:=Builtin.append_) (fun _ _ _ _=>rfl) (by rw [hat,har]; simp only [List.map_toArray,List.map_cons,List.map_nil]; exact hrun)) hr hh hs (fun hq=>by simp [quietOp,ho,hc] at hq) hK
theorem op_min {c:Call} {x y:Operand} (ho:o.op = .call c) (hc:c.callee = .builtin .min) (har:c.args=#[x,y]) (h:Rel E O ts sh env a w)
  (hk:builtinS E .min c.argTypes.toList [evr E ts sh x,evr E ts sh y] sh K):OpOK E O o sh env a w K:=by
 simp only [builtinS] at hk
 split at hk
 ·rename_i k p l k' q m hp hq
  split at hk
  ·rename_i hkk
   subst hkk
   have h1:=rep_asInt hp (evr_rep h x)
   have h2:=rep_asInt hq (evr_rep h y)
   refine opOK_same (v := .int k (min p q)) (callee_builtin hc ho (f:=Builtin.min_) (fun _ _ _ _=>rfl) ?_) rep_mkInt h hk
   rw [har]
   simp only [List.map_toArray,List.map_cons,List.map_nil,h1,h2,Builtin.min_]
   simp only [List.foldlM_cons,List.foldlM_nil,Builtin.min2,bind_pure,Sem.run_pure]
   congr 2
   rw [Int.min_def]
   split<;>split<;>omega
  ·exact hk.elim
 ·exact hk.elim
theorem op_max {c:Call} {x y:Operand} (ho:o.op = .call c) (hc:c.callee = .builtin .max) (har:c.args=#[x,y]) (h:Rel E O ts sh env a w)
  (hk:builtinS E .max c.argTypes.toList [evr E ts sh x,evr E ts sh y] sh K):OpOK E O o sh env a w K:=by
 simp only [builtinS] at hk
 split at hk
 ·rename_i k p l k' q m hp hq
  split at hk
  ·rename_i hkk
   subst hkk
   have h1:=rep_asInt hp (evr_rep h x)
   have h2:=rep_asInt hq (evr_rep h y)
   refine opOK_same (v := .int k (max p q)) (callee_builtin hc ho (f:=Builtin.max_) (fun _ _ _ _=>rfl) ?_) rep_mkInt h hk
   rw [har]
   simp only [List.map_toArray,List.map_cons,List.map_nil,h1,h2,Builtin.max_]
   simp only [List.foldlM_cons,List.foldlM_nil,Builtin.max2,bind_pure,Sem.run_pure]
   congr 2
   rw [Int.max_def]
   split<;>split<;>omega
  ·exact hk.elim
 ·exact hk.elim
/-- The first cells of what is read. -/
theorem run_first {P:Program} {v:Value} {m n:Nat} {vs:List Value} (h:Reads w v m vs) (hl:vs.length=m) (hn:n≤m):(Builtin.firstCells 1 n v).run P w = .ok (vs.take n).toArray w:=by
 have hz:∀ ad c,v = .slice ad 0 c→m=0→(Builtin.firstCells 1 n v).run P w = .ok (vs.take n).toArray w:=by
  intro ad c hv hm
  have h0:n=0:=by omega
  subst h0; subst hv
  cases ad<;>simp [Builtin.firstCells,loadCells,loadCellsFrom]
 rcases h with ⟨ad,c,hv,h2⟩ | ⟨h2,h3,ad,c,hv⟩
 ·rcases h2 with ⟨h3,h4,_⟩ | ⟨b,o',h3,hc⟩
  ·exact hz ad c (by rw [hv,h4]) h4
  ·subst hv; subst h3
   have:=run_loadCells_list (P:=P) w ⟨b,o',none⟩ (vs.take n) (fun j u hu=>by
    rw [List.getElem?_take] at hu
    split at hu
    ·rw [Addr.add_lit]; exact hc j u hu
    ·cases hu)
   have hlen:(vs.take n).length=n:=by simp; omega
   rw [hlen] at this
   simp [Builtin.firstCells,this]
 ·exact hz ad c hv h3
theorem reads_slice {v:Value} {m:Nat} {vs:List Value} (h:Reads w v m vs):∃ ad c,v = .slice ad m c:=by
 rcases h with ⟨ad,c,hv,_⟩ | ⟨_,h3,ad,c,hv⟩
 ·exact ⟨ad,c,hv⟩
 ·exact ⟨ad,c,by rw [hv,h3]⟩
theorem copyInts_length (old xs:List Int):(copyInts old xs).length=old.length:=by
 simp [copyInts]; omega
theorem copy_map {k:IntKind} (old xs:List Int):(xs.map (Value.int k)).take (min xs.length old.length)++(old.map (Value.int k)).drop (min xs.length old.length)=(copyInts old xs).map (Value.int k):=by
 unfold copyInts
 rw [List.map_append,List.map_take,List.map_drop]
 rcases Nat.le_total xs.length old.length with h | h
 ·rw [Nat.min_eq_left h,List.take_of_length_le (by simp),List.take_of_length_le (l:=xs.map _) (by simp; omega)]
 ·rw [Nat.min_eq_right h,List.drop_of_length_le (by simp),List.drop_of_length_le (l:=old.map _) (by simp; omega)]
theorem op_copy {c:Call} {t t':TypeId} {x y:Operand} (ho:o.op = .call c) (hc:c.callee = .builtin .copy) (hat:c.argTypes=#[t,t']) (har:c.args=#[x,y]) (h:Rel E O ts sh env a w)
  (hk:copyS E t (evr E ts sh x) (evr E ts sh y) sh K):OpOK E O o sh env a w K:=by
 have hx:=evr_rep h x
 have hy:=evr_rep h y
 have key:∀ (v:Value) (w':World) (s:SV A) (sh':List (SO A)) (env':List Wit),(Builtin.copy_ #[t,t'] o.type #[a.eval x,a.eval y]).run E.P w = .ok v w'→Rep O env' w' E.C s v→HR O env' w' E.C sh'→Step env w env' w'→K s sh'→OpOK E O o sh env a w K:=by
  intro v w' s sh' env' hrun hr hh hs hK
  exact opOK_of_run (callee_builtin hc ho (f:=Builtin.copy_) (fun _ _ _ _=>rfl) (by rw [hat,har]; simp only [List.map_toArray,List.map_cons,List.map_nil]; exact hrun)) hr hh hs (fun hq=>by simp [quietOp,ho,hc] at hq) hK
 generalize evr E ts sh x=sx at hx hk
 generalize evr E ts sh y=sy at hy hk
 generalize a.eval x=vx at hx key
 generalize a.eval y=vy at hy key
 unfold copyS at hk
 split at hk
 case h_2=>exact hk.elim
 rename_i el hd
 have hu:=under_of_desc hd (by simp)
 split at hk
 case isFalse=>exact hk.elim
 rename_i hs1
 obtain ⟨ei,hei,hes⟩:=info_of_tsize (P:=E.P) hs1 (by omega)
 split at hk
 ·exact hk.elim
 ·rename_i k' xs hxs
  have run:∀ (b off n c2:Nat) (e:TypeId) (k:IntKind) (vs:List Value),vx = .slice (some ⟨b,off,none⟩) n c2→kindOk k' k=true→w.heap[b]?=some (.cells vs.toArray e (0,0))→off+n≤vs.length →
    (Builtin.copy_ #[t,t'] o.type #[vx,vy]).run E.P w = .ok (.int .i64 (min xs.length n:Nat)) (w.setRow b (vs.take off++(xs.map (Value.int k)).take (min xs.length n)++vs.drop (off+min xs.length n)).toArray):=by
   intro b off n c2 e k vs hv hkk hb hfit
   have hrd:=ints_reads h.heap hxs hkk hy
   obtain ⟨ad,c3,hvy⟩:=reads_slice hrd
   have hf:=run_first (P:=E.P) hrd (by simp) (Nat.min_le_left xs.length n)
   have hst:=run_storeCells_at E.P b off e ((xs.map (Value.int k)).take (min xs.length n)) 0 vs.toArray w hb (by simp; omega) (by
    intro u hu
    have:=List.mem_of_mem_take hu
    obtain ⟨z,_,rfl⟩:=List.mem_map.1 this; rfl)
   have hlen:((xs.map (Value.int k)).take (min xs.length n)).length=min xs.length n:=by simp
   rw [hlen] at hst
   subst hv
   have hlo:(Builtin.lenOf vy).run E.P w = .ok xs.length w:=by rw [hvy]; simp [Builtin.lenOf]
   simp only [Builtin.copy_]
   simp only [Nat.add_zero] at hst
   simp [run_underlying hu,hlo,sizeOf,typeInfo,hei,hes,hf,hst,goInt]
  split at hk
  ·rename_i i off n
   split at hk
   ·rename_i e cs hi
    split at hk
    ·rename_i k old hrun
     split at hk
     ·rename_i hkk
      obtain ⟨b,vs,hb,hcb,hr⟩:=h.heap.cells hi
      obtain ⟨c2,hv,_,_⟩:=blkAt_some hx.inv_asl hb
      obtain ⟨hl,pre,post,h1,h2,h3⟩:=hr.part hrun
      have hrn:=run b off n c2 e k vs hv hkk hcb (by rw [h1]; simp; omega)
      rw [setNth_eq] at hk
      refine key _ _ _ _ _ hrn .int (h.heap.set hb rfl _ ?_) (step_setRow hb rfl _) hk
      refine ⟨_,setRow_heap w b _ _ e (0,0) hcb,?_⟩
      have h4:=h3 (copyInts old xs) (by rw [copyInts_length]; exact hl)
      have e5:vs.take off++(xs.map (Value.int k)).take (min xs.length n)++vs.drop (off+min xs.length n)=pre++((copyInts old xs).map (Value.int k)++post):=by
       rw [← copy_map,hl,h1,← h2]
       rw [List.take_left,List.drop_append,List.drop_of_length_le (by omega),List.nil_append,Nat.add_sub_cancel_left,List.drop_append_of_le_length (by simp; omega)]
       simp only [List.append_assoc]
      rw [e5]
      exact h4.step (step_setRow hb rfl _)
     ·exact hk.elim
    ·exact hk.elim
   ·exact hk.elim
  ·rename_i i
   split at hk
   ·rename_i e k old hi
    split at hk
    ·rename_i hkk
     obtain ⟨v,hb,hown⟩:=h.heap.ivec hi
     have hv:=slAt_some hx.inv_vec hb
     subst hv
     rcases hown.2 with ⟨h1,h2⟩ | ⟨g,cap,cur,h1,h3,h4,h5,h6,h7,h8⟩
     ·have hold:old=[]:=List.eq_nil_of_length_eq_zero h2
      subst hold
      have hrd:=ints_reads h.heap hxs hkk hy
      obtain ⟨ad,c3,hvy⟩:=reads_slice hrd
      have hlo:(Builtin.lenOf vy).run E.P w = .ok xs.length w:=by rw [hvy]; simp [Builtin.lenOf]
      have hf:=run_first (P:=E.P) hrd (by simp) (Nat.zero_le _)
      have e6:sh.set i (.ivec e k (copyInts [] xs))=sh:=by
       apply List.ext_getElem?
       intro j
       by_cases hj:i=j
       ·subst hj
        rw [nth_eq] at hi
        rw [List.getElem?_set_self (List.getElem?_eq_some_iff.1 hi).1,hi]
        simp [copyInts]
       ·rw [List.getElem?_set_ne hj]
      rw [setNth_eq,e6] at hk
      refine key (.int .i64 (min xs.length 0:Nat)) w _ _ _ ?_ .int h.heap (Step.refl _ _) (by simpa using hk)
      rw [h1]
      simp only [Builtin.copy_]
      simp [run_underlying hu,hlo,sizeOf,typeInfo,hei,hes,hf,goInt]
     ·have hg':w.heap[g]?=some (.cells cur.toList.toArray e (0,0)):=by simpa using h4
      simp only [Nat.mul_one] at h7 h8
      have hrn:=run g 0 old.length cap e k cur.toList h1 hkk hg' (by simp; omega)
      rw [setNth_eq] at hk
      subst h1
      refine key _ _ _ _ _ hrn .int (h.heap.set hb (by simp [Wit.owns,Value.ownBlock]) _ ?_) (step_setRow hb (by simp [Wit.owns,Value.ownBlock]) _) hk
      have hcl:=copyInts_length old xs
      refine ⟨by simp,.inr ⟨g,cap,_,by rw [hcl],Nat.zero_le _,setRow_heap w g _ _ e (0,0) hg',by omega,h6,?_,?_⟩⟩
      ·simp; omega
      ·rw [hcl,← copy_map]
       simp only [Nat.mul_one,List.take_zero,List.nil_append,Nat.zero_add]
       have hsp:cur.toList=old.map (Value.int k)++cur.toList.drop old.length:=by
        conv=>lhs; rw [← List.take_append_drop old.length cur.toList]
        rw [h8]
       rw [hsp,List.drop_append_of_le_length (by simp; omega),← List.append_assoc,List.take_append_of_le_length (by simp; omega),List.take_of_length_le (by simp; omega)]
    ·exact hk.elim
   ·exact hk.elim
  ·exact hk.elim
end
end Go.Eng

/-! The engine's operations are right: what is let go, slices and arrays that are written out. Conditions: none. -/
namespace Go.Eng
open Go
variable {A:Nat→Type}
section
variable {O:Nat→Prop} {env:List Wit} {w:World} {C:Enc A} {sh:List (SO A)}
mutual
theorem eqv_rep:∀ {s s':SV A} {v:Value},eqv s s'→Rep O env w C s' v→Rep O env w C s v:=by
 intro s s' v h hr
 unfold eqv at h
 split at h
 ·split at h
  ·rename_i e; subst e; subst h; rw [hr.inv_int]; exact .int
  ·exact h.elim
 ·split at h
  ·rename_i e; subst e; subst h; rw [hr.inv_lit]; exact .int
  ·exact h.elim
 ·split at h
  ·rename_i e; subst e; subst h; rw [hr.inv_int]; exact .lit
  ·exact h.elim
 ·split at h
  ·rename_i e; subst e; subst h; rw [hr.inv_lit]; exact .lit
  ·exact h.elim
 ·subst h; rw [hr.inv_bl]; exact .bl
 ·subst h; rw [hr.inv_sb]; exact .bl
 ·subst h; rw [hr.inv_bl]; exact .sb
 ·subst h; rw [hr.inv_sb]; exact .sb
 ·split at h
  ·rename_i e; subst e; exact hr
  ·exact h.elim
 ·split at h
  ·rename_i e; subst e
   split at h
   ·rename_i e; subst e; exact hr
   ·exact h.elim
  ·exact h.elim
 ·split at h
  ·rename_i e; subst e; subst h; exact hr
  ·exact h.elim
 ·subst h; rw [hr.inv_val]; exact .rints (xs:=[]) none 0 (Nat.le_refl _) (by simp [maxLen]) (.inl rfl)
 ·split at h
  ·rename_i e; subst e; subst h; exact hr
  ·exact h.elim
 ·subst h; rw [hr.inv_val]; exact .rseq (xs:=[]) none 0 [] (Nat.le_refl _) (by simp [maxLen]) (by simp) (.inl rfl) (fun j x hj=>by simp at hj)
 ·obtain ⟨us,hv,h1⟩:=hr.inv_agg
  rw [hv]; exact .agg us (eqvL_rep h h1)
 ·obtain ⟨us,hv,h1⟩:=hr.inv_tup
  rw [hv]; exact .tup us (eqvL_rep h h1)
 ·split at h
  ·rename_i e; subst e
   obtain ⟨u,hv,h1⟩:=hr.inv_iface
   rw [hv]; exact .iface (eqv_rep h h1)
  ·exact h.elim
 ·split at h
  ·rename_i e; subst e; subst h; exact hr
  ·exact h.elim
 ·subst h; rw [hr.inv_val]; exact .err (.inl ⟨rfl,rfl⟩)
 ·split at h
  ·rename_i e; subst e; obtain ⟨rfl,h2⟩:=h
   obtain ⟨u,hv,h1⟩:=hr.inv_iface
   rw [hv,h1.inv_int]; exact .err (.inr ⟨h2,rfl⟩)
  ·exact h.elim
 ·split at h
  ·rename_i e; subst e; obtain ⟨rfl,h2⟩:=h
   obtain ⟨u,hv,h1⟩:=hr.inv_iface
   rw [hv,h1.inv_lit]; exact .err (.inr ⟨h2,rfl⟩)
  ·exact h.elim
 ·obtain ⟨e,h2,h3⟩:=h
  subst e
  obtain ⟨us,vs,hv,h4,h5⟩:=hr.inv_fn
  rw [hv]; exact .fn us vs (eqvL_rep h2 h4) (eqvL_rep h3 h5)
 ·exact .junk
 ·subst h; exact hr
theorem eqvL_rep:∀ {s s':SL A} {vs:List Value},eqvL s s'→RepL O env w C s' vs→RepL O env w C s vs:=by
 intro s s' vs h hr
 unfold eqvL at h
 split at h
 ·exact hr
 ·obtain ⟨u,us,hv,h1,h2⟩:=hr.inv_cell
  rw [hv]; exact .cell (eqv_rep h.1 h1) (eqvL_rep h.2 h2)
 ·split at h
  ·rename_i e; subst e
   split at h
   ·rename_i e; subst e
    obtain ⟨us,hn,hv,h1⟩:=hr.inv_run
    rw [hv,← h.1]
    exact .run (by rw [h.1]; exact hn) (eqvL_rep h.2 h1)
   ·exact h.elim
  ·exact h.elim
 ·exact h.elim
end
/-- A vector is let go. -/
theorem letGo_spec (hh:HR O env w C sh) {s s':SV A} {sh':List (SO A)} {v:Value} (h:letGo sh s=some (s',sh')) (hr:Rep O env w C s v) :
  ∃ env',HR O env' w C sh'∧Step env w env' w∧Rep O env' w C s' v:=by
 unfold letGo at h
 split at h
 ·rename_i i
  split at h
  ·rename_i e k xs hi
   cases h
   obtain ⟨u,hb,h1,h2,h3⟩:=hh.freezeI hi
   have hv:=slAt_some hr.inv_vec hb
   subst hv
   exact ⟨_,h1,h2,h3⟩
  ·rename_i e xs hi
   cases h
   obtain ⟨u,hb,h1,h2,h3⟩:=hh.freezeS hi
   have hv:=slAt_some hr.inv_vec hb
   subst hv
   exact ⟨_,h1,h2,h3⟩
  ·rename_i s hi
   cases h
   have h1:=rep_rsl hh hr
   simp only [rsl,hi] at h1
   exact ⟨env,hh,Step.refl _ _,h1⟩
  ·cases h
 ·cases h
  exact ⟨env,hh,Step.refl _ _,hr⟩
theorem letGoL_spec:∀ {cs cs':SL A} {sh sh':List (SO A)} {env:List Wit} {vs:List Value},HR O env w C sh→letGoL sh cs=some (cs',sh')→RepL O env w C cs vs →
  ∃ env',HR O env' w C sh'∧Step env w env' w∧RepL O env' w C cs' vs
 | .nil,_,_,_,env,vs,hh,h,hr=>by
  simp only [letGoL,Option.some.injEq,Prod.mk.injEq] at h
  obtain ⟨rfl,rfl⟩:=h
  exact ⟨env,hh,Step.refl _ _,hr⟩
 | .cell s r,_,sh,_,env,vs,hh,h,hr=>by
  simp only [letGoL] at h
  split at h
  ·rename_i s' sh1 h1
   split at h
   ·rename_i r' sh2 h2
    cases h
    obtain ⟨u,us,rfl,h3,h4⟩:=hr.inv_cell
    obtain ⟨env1,h5,h6,h7⟩:=letGo_spec hh h1 h3
    obtain ⟨env2,h8,h9,h10⟩:=letGoL_spec h5 h2 (h4.step h6)
    exact ⟨env2,h8,h6.trans h9,.cell (h7.step h9) h10⟩
   ·cases h
  ·cases h
 | .run k n xs r,_,sh,_,env,vs,hh,h,hr=>by
  simp only [letGoL] at h
  split at h
  ·rename_i r' sh2 h2
   cases h
   obtain ⟨us,hn,rfl,h4⟩:=hr.inv_run
   obtain ⟨env2,h8,h9,h10⟩:=letGoL_spec hh h2 h4
   exact ⟨env2,h8,h9,.run hn h10⟩
  ·cases h
theorem letGoV_spec (hh:HR O env w C sh) {s s':SV A} {sh':List (SO A)} {v:Value} (h:letGoV sh s=some (s',sh')) (hr:Rep O env w C s v) :
  ∃ env',HR O env' w C sh'∧Step env w env' w∧Rep O env' w C s' v:=by
 unfold letGoV at h
 split at h
 ·split at h
  ·rename_i h1
   cases h
   obtain ⟨us,rfl,h2⟩:=hr.inv_agg
   obtain ⟨env',h3,h4,h5⟩:=letGoL_spec hh h1 h2
   exact ⟨env',h3,h4,.agg us h5⟩
  ·cases h
 ·exact letGo_spec hh h hr
/-- Values, one by one. -/
def RepVs (O:Nat→Prop) (env:List Wit) (w:World) (C:Enc A) (ss:List (SV A)) (vs:List Value):Prop:=
 ss.length=vs.length∧∀ (j:Nat) s,ss[j]?=some s→∃ v,vs[j]?=some v∧Rep O env w C s v
theorem decAll_spec {E:Eng A} {t:Nat} (hsz:tsize E.P t=E.C.size t):∀ {ss:List (SV A)} {sh:List (SO A)} {env:List Wit} {vs:List Value} {K:List (A t)→List (SO A)→Prop},
  HR O env w E.C sh→RepVs O env w E.C ss vs→decAll E t sh ss K→(∀ t y,(E.C.enc t y).len=E.C.size t) →
  ∃ ys sh' env',HR O env' w E.C sh'∧Step env w env' w∧ys.length=vs.length∧(∀ v∈vs,v.cells.size=E.C.size t)∧Rows O env' w E.C t ys (vs.flatMap fun v=>v.cells.toList)∧K ys sh'
 | [],sh,env,[],K,hh,hv,h,_=>by
  simp only [decAll] at h
  exact ⟨[],sh,env,hh,Step.refl _ _,rfl,by simp,⟨by simp,fun j x hj=>by simp at hj⟩,h⟩
 | [],sh,env,_::_,K,hh,hv,h,_=>by have:=hv.1; simp at this
 | s::ss,sh,env,[],K,hh,hv,h,_=>by have:=hv.1; simp at this
 | s::ss,sh,env,v::vs,K,hh,hv,h,hlen=>by
  simp only [decAll] at h
  split at h
  ·rename_i s' sh1 h1
   split at h
   ·rename_i cs h2
    split at h
    ·rename_i y h3
     obtain ⟨h4,h5⟩:=h
     obtain ⟨v',hv',hr⟩:=hv.2 0 s rfl
     simp only [List.getElem?_cons_zero,Option.some.injEq] at hv'
     subst hv'
     obtain ⟨env1,h6,h7,h8⟩:=letGoV_spec hh h1 hr
     obtain ⟨h9,_⟩:=rep_toSL h6 h2 h8
     have h10:=eqvL_rep h4 h9
     obtain ⟨ys,sh2,env2,h11,h12,h13,h14,h15,h16⟩:=decAll_spec hsz (t:=t) (K:=fun ys sh2=>K (y::ys) sh2) h6 (vs:=vs) ⟨by have:=hv.1; simpa using this,fun j s hj=>by
      obtain ⟨v,h17,h18⟩:=hv.2 (j+1) s (by simpa using hj)
      exact ⟨v,by simpa using h17,h18.step h7⟩⟩ h5 hlen
     have hcl:v.cells.size=E.C.size t:=by
      have:=h10.length
      rw [hlen] at this
      simpa using this
     refine ⟨y::ys,sh2,env2,h11,h7.trans h12,by simp [h13],?_,?_,h16⟩
     ·intro u hu
      rcases List.mem_cons.1 hu with e | hu
      ·rw [e]; exact hcl
      ·exact h14 u hu
     ·have hone:Rows O env2 w E.C t [y] v.cells.toList:=⟨by simp [hcl],fun j x hj=>by
       cases j with
       | zero=>
        simp only [List.getElem?_cons_zero,Option.some.injEq] at hj
        subst hj
        rw [Nat.zero_mul,List.drop_zero,List.take_of_length_le (by simp [hcl])]
        exact h10.step h12
       | succ j=>simp at hj⟩
      exact hone.append h15
    ·exact h.elim
   ·exact h.elim
  ·exact h.elim
theorem intAll_spec {k:IntKind}:∀ {ss:List (SV A)} {ns:List Int} {vs:List Value},intAll k ss=some ns→RepVs O env w C ss vs→vs=ns.map (Value.int k)
 | [],ns,vs,h,hv=>by
  simp only [intAll,Option.some.injEq] at h
  subst h
  have:=hv.1
  exact List.eq_nil_of_length_eq_zero (by simpa using this.symm)
 | s::ss,ns,[],h,hv=>by have:=hv.1; simp at this
 | s::ss,ns,v::vs,h,hv=>by
  simp only [intAll] at h
  split at h
  ·rename_i k' n l ns' h1 h2
   split at h
   ·rename_i hk
    cases h
    subst hk
    obtain ⟨v',hv',hr⟩:=hv.2 0 s rfl
    simp only [List.getElem?_cons_zero,Option.some.injEq] at hv'
    subst hv'
    rw [rep_asInt h1 hr,intAll_spec h2 (vs:=vs) ⟨by have:=hv.1; simpa using this,fun j s hj=>by
     obtain ⟨v,h17,h18⟩:=hv.2 (j+1) s (by simpa using hj)
     exact ⟨v,by simpa using h17,h18⟩⟩]
    rfl
   ·cases h
  ·cases h
/-- Parts that come in order, and fill all. -/
theorem fill_dense {size:Nat}:∀ (vs:List Value) (k:Nat) (cells:Array Value),(∀ v∈vs,v.cells.size=size)→(k+vs.length)*size≤cells.size →
  ∃ cells',Instr.fill (fun i=>some (i*size,size)) cells ((vs.zipIdx k).map fun x=>(x.2,x.1))=some cells' ∧
   cells'.toList=cells.toList.take (k*size)++((vs.flatMap fun v=>v.cells.toList)++cells.toList.drop ((k+vs.length)*size))
 | [],k,cells,_,_=>⟨cells,rfl,by simp⟩
 | v::vs,k,cells,hs,hfit=>by
  have hv:=hs v (List.mem_cons_self)
  have hfit1:k*size+v.cells.toList.length≤cells.size:=by
   simp only [Array.length_toList,hv]
   rw [← Nat.succ_mul]
   exact Nat.le_trans (Nat.mul_le_mul_right _ (by simp)) hfit
  have hfp:=foldl_put v.cells.toList (k*size) cells hfit1
  have ih:=fill_dense (size:=size) vs (k+1) ((v.cells.toList.zipIdx 0).foldl (fun cs (x:Value×Nat)=>cs.setIfInBounds (k*size+x.2) x.1) cells) (fun u hu=>hs u (List.mem_cons_of_mem _ hu)) (by
   have h1:((v.cells.toList.zipIdx 0).foldl (fun cs (x:Value×Nat)=>cs.setIfInBounds (k*size+x.2) x.1) cells).size=cells.size:=by
    rw [← Array.length_toList,hfp]
    simp only [List.length_append,List.length_take,List.length_drop,Array.length_toList] at hfit1 ⊢
    omega
   rw [h1]
   have:k+1+vs.length=k+(v::vs).length:=by simp; omega
   rw [this]; exact hfit)
  obtain ⟨cells',h1,h2⟩:=ih
  refine ⟨cells',?_,?_⟩
  ·simp only [List.zipIdx_cons,List.map_cons,Instr.fill]
   rw [if_neg (by simp only [Array.length_toList] at hfit1; simp; omega)]
   rw [← h1]
   congr 1
   rw [← Array.foldl_toList,Array.toList_zipIdx]
  ·rw [h2,hfp]
   simp only [Array.length_toList,hv]
   have hks:k*size≤cells.size:=by simp only [Array.length_toList,hv] at hfit1; omega
   have hlen:(cells.toList.take (k*size)).length=k*size:=by simp; omega
   rw [Nat.succ_mul]
   rw [List.take_append,List.take_of_length_le (l:=cells.toList.take (k*size)) (by omega),hlen,Nat.add_sub_cancel_left]
   rw [List.take_append_of_le_length (by simp [hv]),List.take_of_length_le (l:=v.cells.toList) (by simp [hv])]
   rw [List.drop_append,List.drop_of_length_le (l:=cells.toList.take (k*size)) (by rw [hlen]; exact Nat.mul_le_mul_right _ (by omega)),List.nil_append,hlen]
   rw [List.drop_append,List.drop_of_length_le (l:=v.cells.toList) (by
    simp only [Array.length_toList,hv]
    rw [← Nat.sub_mul]
    have:1≤k+1+vs.length-k:=by omega
    calc size=1*size:=by simp
     _≤_:=Nat.mul_le_mul_right _ this),List.nil_append]
   rw [List.drop_drop]
   simp only [List.flatMap_cons,List.append_assoc]
   congr 3
   congr 1
   simp only [Array.length_toList,hv,List.length_cons]
   rw [← Nat.sub_mul]
   have e1:k+1+vs.length-k=1+vs.length:=by omega
   rw [e1,Nat.add_mul 1,Nat.one_mul,Nat.add_sub_cancel_left]
   simp only [Nat.add_mul,Nat.one_mul]
   omega
theorem partsInOrder_spec:∀ {l:List (Nat×SV A)} {k:Nat} {r:List (SV A)},partsInOrder k l=some r→r=l.map (·.2)∧∀ (j:Nat) p,l[j]?=some p→p.1=k+j
 | [],k,r,h=>by
  simp only [partsInOrder,Option.some.injEq] at h
  exact ⟨h.symm,fun j p hj=>by simp at hj⟩
 | (i,s)::l,k,r,h=>by
  simp only [partsInOrder] at h
  split at h
  ·rename_i hi
   split at h
   ·rename_i r' hr'
    cases h
    obtain ⟨h1,h2⟩:=partsInOrder_spec hr'
    refine ⟨by rw [h1]; rfl,fun j p hj=>?_⟩
    cases j with
    | zero=>simp at hj; rw [← hj]; exact hi
    | succ j=>have:=h2 j p (by simpa using hj); omega
   ·cases h
  ·cases h
/-- The values of parts that come in order. -/
theorem parts_values {E:Eng A} {ts:List (SV A)} {a:Act} {ps:List (Nat×Operand)} (h:Rel E O ts sh env a w) {r:List (SV A)} (hp:partsInOrder 0 (ps.map fun p=>(p.1,evr E ts sh p.2))=some r) :
  RepVs O env w E.C r (ps.map fun p=>a.eval p.2)∧(ps.map fun p=>(p.1,a.eval p.2))=((ps.map fun p=>a.eval p.2).zipIdx 0).map fun x=>(x.2,x.1):=by
 obtain ⟨h1,h2⟩:=partsInOrder_spec hp
 constructor
 ·subst h1
  refine ⟨by simp,fun j s hj=>?_⟩
  simp only [List.map_map,List.getElem?_map] at hj ⊢
  cases hq:ps[j]? with
  | none=>rw [hq] at hj; cases hj
  | some q=>
   rw [hq] at hj
   simp only [Option.map_some,Option.some.injEq,Function.comp] at hj
   subst hj
   exact ⟨_,rfl,evr_rep h q.2⟩
 ·apply List.ext_getElem?
  intro j
  simp only [List.getElem?_map,List.getElem?_zipIdx]
  cases hq:ps[j]? with
  | none=>rfl
  | some q=>
   have:=h2 j (q.1,evr E ts sh q.2) (by simp [hq])
   simp only [Nat.zero_add] at this
   simp [this]
end
section
variable {E:Eng A} {O:Nat→Prop} {ts:List (SV A)} {sh:List (SO A)} {env:List Wit} {a:Act} {w:World} {o:Oper} {K:Pred A}
theorem mapParts (ps:Array (Nat×Operand)) (a:Act):ps.map (fun p=>(p.1,a.eval p.2))=(ps.toList.map fun p=>(p.1,a.eval p.2)).toArray:=by
 rw [← Array.toList_map,Array.toArray_toList]
theorem run_buildSlice_dense {t e:TypeId} {z:SL A} {n:Nat} {ps:Array (Nat×Operand)} {r:List (SV A)} (hd:desc E.P t = .slice e) (hz:tyZero E.P e=some z) (_hzl:z.len=tsize E.P e) (hne:tsize E.P e≠0)
  (h:Rel E O ts sh env a w) (hp:partsInOrder 0 (ps.toList.map fun p=>(p.1,evr E ts sh p.2))=some r) (hn:r.length=n) (hfit:n*tsize E.P e≤65536)
  (hsz:∀ v∈ps.toList.map (fun p=>a.eval p.2),v.cells.size=tsize E.P e) :
  (Instr.buildSlice t n (ps.map fun p=>(p.1,a.eval p.2))).run E.P w = .ok (.slice (some ⟨w.heap.size,0,none⟩) n n) (w.alloc (.cells ((ps.toList.map fun p=>a.eval p.2).flatMap fun v=>v.cells.toList).toArray e)):=by
 have hu:=under_of_desc hd (by simp)
 obtain ⟨i,zv,hi,hiz,hr⟩:=tyZero_spec hz
 obtain ⟨hv,hpe⟩:=parts_values h hp
 have hsize:i.size=tsize E.P e:=by simp [tsize,hi]
 have hlen:(ps.toList.map fun p=>a.eval p.2).length=n:=by rw [← hn]; exact hv.1.symm
 have hfd:=fun cells hc=>fill_dense (size:=tsize E.P e) (ps.toList.map fun p=>a.eval p.2) 0 cells hsz hc
 rw [← hpe] at hfd
 simp only [Instr.buildSlice,Sem.run_bind,run_underlying hu,Result.andThen_ok,sizeOf,typeInfo,mapParts]
 have h24:¬(n*i.size>2 ^ 24):=by rw [hsize]; omega
 by_cases h0:n*i.size=0
 ·have hn0:n=0:=by
   rcases Nat.mul_eq_zero.1 h0 with h1 | h1
   ·exact h1
   ·omega
  subst hn0
  have hps:ps.toList.map (fun p=>a.eval p.2)=[]:=List.eq_nil_of_length_eq_zero hlen
  have hps2:ps.toList.map (fun p=>(p.1,a.eval p.2))=[]:=by rw [hpe,hps]; rfl
  rw [hps,hps2]
  have e0:Array.range 0=#[]:=rfl
  simp [hi,Instr.fill,newRow,e0]
 ·obtain ⟨cells',h1,h2⟩:=hfd ((Array.range (n*i.size)).map (zv.cells[·%zv.cells.size]!)) (by simp [hsize,hlen])
  have hcl:cells'=((ps.toList.map fun p=>a.eval p.2).flatMap fun v=>v.cells.toList).toArray:=by
   apply Array.toList_inj.1
   rw [h2,Nat.zero_mul,List.take_zero,List.nil_append,List.drop_of_length_le (by simp [hsize,hlen]),List.append_nil]
  rw [hcl,← hsize] at h1
  simp [hi,h24,h0,zeroValue,typeInfo,hiz,h1,newRow]
theorem op_buildSlice {t:TypeId} {n:Nat} {ps:Array (Nat×Operand)} (ho:o.op = .buildSlice t n ps) (h:Rel E O ts sh env a w) (hk:buildSliceS E t n (ps.toList.map fun p=>(p.1,evr E ts sh p.2)) sh K):OpOK E O o sh env a w K:=by
 unfold buildSliceS at hk
 split at hk
 case h_2=>exact hk.elim
 rename_i e hd
 split at hk
 ·exact hk.elim
 ·rename_i z hz
  split at hk
  case isFalse=>exact hk.elim
  rename_i hzl
  split at hk
  case h_2=>exact hk.elim
  rename_i r hp
  split at hk
  case isFalse=>exact hk.elim
  rename_i hn
  rw [cnt_eq] at hn
  split at hk
  case isFalse=>exact hk.elim
  rename_i hfit
  obtain ⟨hv,_⟩:=parts_values h hp
  have hvl:(ps.toList.map fun p=>a.eval p.2).length=n:=by rw [← hn]; exact hv.1.symm
  have big:n≤maxLen∨tsize E.P e=0:=by
   rcases Nat.eq_zero_or_pos (tsize E.P e) with h1 | h1
   ·exact .inr h1
   ·left
    simp only [maxLen]
    have:=Nat.le_mul_of_pos_right n h1
    omega
  split at hk
  ·rename_i k hk0
   split at hk
   case isFalse=>exact hk.elim
   rename_i hs1
   split at hk
   case h_2=>exact hk.elim
   rename_i ns hns
   have hvs:=intAll_spec hns hv
   have hrun:=run_buildSlice_dense hd hz hzl (by omega) h hp hn hfit (by rw [hvs,hs1]; intro v hv; obtain ⟨y,_,rfl⟩:=List.mem_map.1 hv; rfl)
   rw [hvs] at hrun hvl
   have hfm:((ns.map (Value.int k)).flatMap fun v=>v.cells.toList)=ns.map (Value.int k):=by
    clear hrun hvl hvs hns hk
    induction ns with
    | nil=>rfl
    | cons x l ih=>simp only [List.map_cons,List.flatMap_cons,ih]; rfl
   rw [hfm] at hrun
   have hnl:ns.length=n:=by simpa using hvl
   obtain ⟨h3,h4,h5⟩:=vec_push h.heap (v' := .slice (some ⟨w.heap.size,0,none⟩) n n) (World.grownBy_alloc w (.cells (ns.map (Value.int k)).toArray e) none) (.inr rfl) (fun b hb=>by
    simp only [Value.ownBlock,Option.some.injEq] at hb; simp [← hb]) (.ivec e k ns) (fun _=>by
    refine ⟨by simp,.inr ⟨w.heap.size,n,_,by rw [hnl],Nat.zero_le _,heap_alloc_new w _,by omega,by rcases big with h | h<;>omega,by simp [hnl],by
     simp only [Nat.mul_one]
     exact List.take_of_length_le (by simp)⟩⟩)
   rw [snoc_eq] at hk
   exact opOK_of_run (v := .slice (some ⟨w.heap.size,0,none⟩) n n) (by simp only [execOp,ho]; simp [hrun]) h5 h3 h4 (fun _=>Old.alloc _ _) hk
  ·split at hk
   case isFalse=>exact hk.elim
   rename_i hsz
   split at hk
   ·exact hk.elim
   ·rename_i hne
    obtain ⟨ys,sh1,env1,h6,h7,h8,h9,h10,h11⟩:=decAll_spec hsz h.heap hv hk E.encLen
    have hrun:=run_buildSlice_dense hd hz hzl hne h hp hn hfit (by rw [hsz]; exact h9)
    have hyl:ys.length=n:=by rw [h8]; exact hvl
    obtain ⟨h3,h4,h5⟩:=vec_push h6 (v' := .slice (some ⟨w.heap.size,0,none⟩) n n) (World.grownBy_alloc w (.cells ((ps.toList.map fun p=>a.eval p.2).flatMap fun v=>v.cells.toList).toArray e) none) (.inr rfl) (fun b hb=>by
     simp only [Value.ownBlock,Option.some.injEq] at hb; simp [← hb]) (.svec e ys) (fun hs=>by
     have hl:=h10.1
     refine ⟨_,⟨hl,.inr ⟨w.heap.size,n,_,by rw [hyl],Nat.zero_le _,heap_alloc_new w _,by omega,by rcases big with h | h<;>omega,?_,?_⟩⟩,(h10.step hs).2⟩
     ·rw [List.size_toArray,hl,hyl]
     ·rw [← hl,List.take_of_length_le (by simp)])
    rw [snoc_eq] at h11
    exact opOK_of_run (v := .slice (some ⟨w.heap.size,0,none⟩) n n) (by simp only [execOp,ho]; simp [hrun]) h5 h3 (h7.trans h4) (fun _=>Old.alloc _ _) h11
/-- An array of integers, written out whole. -/
theorem op_build {t:TypeId} {ps:Array (Nat×Operand)} (ho:o.op = .build t ps) (h:Rel E O ts sh env a w) (hk:buildS E t (ps.toList.map fun p=>(p.1,evr E ts sh p.2)) sh fun v=>K v sh):OpOK E O o sh env a w K:=by
 unfold buildS at hk
 split at hk
 ·rename_i cs hcs
  split at hcs
  ·rename_i n e hd
   split at hcs
   ·rename_i k hk0
    split at hcs
    ·cases hcs
    ·rename_i hnn
     split at hcs
     ·rename_i ns hns
      split at hcs
      ·rename_i hok
       cases hcs
       unfold intsParts at hns
       split at hns
       ·rename_i r hp
        split at hns
        ·rename_i hn
         rw [cnt_eq] at hn
         obtain ⟨hv,hpe⟩:=parts_values h hp
         have hvs:=intAll_spec hns hv
         obtain ⟨hs1,z,hz,hzl⟩:=zeroOk_spec hok
         obtain ⟨i,zv,hi,hiz,hr⟩:=tyZero_spec hz
         have hu:=under_of_desc hd (by simp)
         obtain ⟨ei,hei,hes⟩:=info_of_tsize (P:=E.P) hs1 (by omega)
         have hnl:ns.length=n:=by
          have:=hv.1
          rw [hvs] at this
          simp at this; omega
         have hzs:zv.cells.size=n:=by
          have:=(hr (fun _=>False) [] w E.C).length
          rw [hzl] at this; simpa using this
         obtain ⟨cells',h1,h2⟩:=fill_dense (size:=1) (ps.toList.map fun p=>a.eval p.2) 0 zv.cells (by rw [hvs]; intro v hv; obtain ⟨y,_,rfl⟩:=List.mem_map.1 hv; rfl) (by rw [hvs]; simp [hzs,hnl])
         rw [← hpe] at h1
         have hfm:((ns.map (Value.int k)).flatMap fun v=>v.cells.toList)=ns.map (Value.int k):=by
          clear hvs hns hk hnl h1 h2
          induction ns with
          | nil=>rfl
          | cons x l ih=>simp only [List.map_cons,List.flatMap_cons,ih]; rfl
         rw [hvs,hfm,Nat.zero_mul,List.take_zero,List.nil_append,List.drop_of_length_le (by simp [hzs,hnl]),List.append_nil] at h2
         have hrl:=Rep.agg (O:=O) (env:=env) (w:=w) (C:=E.C) _ (RepL.run (k:=k) (n:=n) (xs:=ns) hnl RepL.nil)
         rw [List.append_nil,← h2,Array.toArray_toList] at hrl
         refine opOK_same (v := .agg cells') ?_ hrl h hk
         have hz0:(zeroValue t).run E.P w = .ok zv w:=by simp [zeroValue,typeInfo,hi,hiz]
         have hso:(sizeOf e).run E.P w = .ok 1 w:=by simp [sizeOf,typeInfo,hei,hes]
         simp only [execOp,ho,Sem.run_bind,Instr.build,hz0,Result.andThen_ok,run_underlying hu,hso,mapParts,h1,Sem.run_pure]
        ·cases hns
       ·cases hns
      ·cases hcs
     ·cases hcs
   ·cases hcs
  ·cases hcs
 ·split at hk
  ·rename_i hok
   split at hk
   ·rename_i z hz
    split at hk
    ·rename_i cs hf
     obtain ⟨cells',h1,h2⟩:=run_fill h hok hz hf
     refine opOK_same (v := .agg cells') (by simp only [execOp,ho]; simp [h1]) (by have:=Rep.agg (O:=O) (env:=env) (w:=w) (C:=E.C) _ h2; simpa using this) h hk
    ·exact hk.elim
   ·exact hk.elim
  ·exact hk.elim
end
end Go.Eng

/-! The engine's operations are right: a store into a part of a vector's element, a slice's head as an array, a letter of a string. Conditions: none. -/
namespace Go.Eng
open Go
variable {A:Nat→Type}
section
variable {E:Eng A} {O:Nat→Prop} {ts:List (SV A)} {sh:List (SO A)} {env:List Wit} {a:Act} {w:World} {o:Oper} {K:Pred A} {C:Enc A}
theorem op_s2ap {t:TypeId} {x:Operand} (ho:o.op = .sliceToArrayPointer t x) (h:Rel E O ts sh env a w) (hk:s2apS E t (evr E ts sh x) sh fun v=>K v sh):OpY E O o sh env a w K:=by
 have hx:=evr_rep h x
 have key:∀ (n:Nat) (e:TypeId) (ad:Option Addr) (len c:Nat) (s:SV A),desc E.P t = .array n e→a.eval x = .slice ad len c→n≤len→Rep O env w E.C s (.pointer ad)→K s sh→OpY E O o sh env a w K:=by
  intro n e ad len c s hd hv hle hr hK
  refine opY_same (v := .pointer ad) (fun w'=>?_) hr hK
  have hu:=under_of_desc hd (by simp)
  simp only [execOp,ho,hv,Instr.arrayAt]
  simp [run_underlying hu,Nat.not_lt.2 hle]
 unfold s2apS at hk
 split at hk
 case h_2=>exact hk.elim
 rename_i n e hd
 split at hk
 ·exact hk.elim
 rename_i hn
 split at hk
 ·rename_i k xs e1
  rw [e1] at hx
  obtain ⟨hle,hK⟩:=hk
  obtain ⟨ad,c,hv,h1,h2,h3⟩:=hx.inv_rints
  rcases h3 with h3 | ⟨b,o',rfl,hO,he,hc⟩
  ·have:xs.length=0:=by simpa using congrArg List.length h3
   omega
  ·have hlt:b<w.heap.size:=by
    have h4:0<xs.length:=by omega
    exact cell_lt (hc 0 _ (by rw [List.getElem?_map,List.getElem?_eq_getElem h4]; rfl))
   refine key n e _ _ _ _ hd hv hle (.rptr b o' (xs.map (Value.int k)) hO he hlt hc ?_) hK
   have:=RepL.run (O:=O) (env:=env) (w:=w) (C:=E.C) (k:=k) (n:=xs.length) (xs:=xs) rfl .nil
   rwa [List.append_nil] at this
 ·rename_i i e1
  rw [e1] at hx
  split at hk
  ·rename_i e' k xs hi
   obtain ⟨hle,hK⟩:=hk
   obtain ⟨v,hb,hown⟩:=h.heap.ivec hi
   have hv:=slAt_some hx.inv_vec hb
   rcases hown.2 with ⟨h1,h2⟩ | ⟨g,cap,cur,h1,h3⟩
   ·omega
   ·rw [h1] at hv
    refine key n e _ _ _ _ hd hv hle (.vptr ?_) hK
    unfold slAt
    rw [hb]
    exact ⟨g,xs.length,cap,h1,by simp⟩
  ·exact hk.elim
 ·exact hk.elim
theorem op_index {t:TypeId} {x y:Operand} (ho:o.op = .index t x y) (h:Rel E O ts sh env a w) (hk:idxS E t (evr E ts sh x) (evr E ts sh y) fun v=>K v sh):OpY E O o sh env a w K:=by
 have hx:=evr_rep h x
 have hy:=evr_rep h y
 unfold idxS at hk
 split at hk
 ·exact hk.elim
 rename_i k' i l hi
 have hvy:=rep_asInt hi hy
 split at hk
 ·rename_i hd
  have hu:=under_of_desc hd (by simp)
  split at hk
  ·rename_i v0 e1
   rw [e1] at hx
   split at hk
   case h_2=>exact hk.elim
   rename_i s
   obtain ⟨h0,h1,hK⟩:=hk
   have hvx:=hx.inv_val
   have hlt:i.toNat<s.data.toList.length:=by
    have:s.data.toList.length=s.size:=by rw [Array.length_toList]; rfl
    omega
   refine opY_same (v := .int .u8 (s.data.toList.getD i.toNat 0).toNat) (fun w'=>?_) .int hK
   have hlt':i.toNat<s.size:=by omega
   have hget:s[i.toNat]?=some (s.data.toList.getD i.toNat 0):=by
    rw [getElem?_pos s i.toNat hlt',List.getD_eq_getElem?_getD,List.getElem?_eq_getElem hlt]
    rfl
   simp only [execOp,ho,hvx,hvy,Instr.index]
   simp [run_underlying hu,asIntOf,h0,hget]
  ·exact hk.elim
 ·rename_i n e hd
  have hu:=under_of_desc hd (by simp)
  split at hk
  case h_2=>exact hk.elim
  rename_i k2 hd2
  split at hk
  case isFalse=>exact hk.elim
  rename_i hsz
  split at hk
  case h_2=>exact hk.elim
  rename_i k m xs e1
  rw [e1] at hx
  split at hk
  case isFalse=>exact hk.elim
  rename_i hkk
  split at hk
  case isFalse=>exact hk.elim
  rename_i hm
  obtain ⟨h0,h1,hK⟩:=hk
  obtain ⟨us,hvx,hr⟩:=hx.inv_agg
  obtain ⟨us2,hn,rfl,hr2⟩:=hr.inv_run
  have:=hr2.inv_nil
  subst this
  obtain ⟨inf,hinf,hisz⟩:=info_of_tsize (P:=E.P) (t:=e) hsz (by omega)
  have hok:okT E.P e=true:=by unfold okT; rw [hd2]; simp [hsz]
  have hrun:RepL O env w E.C (.run k m xs .nil) (xs.map (Value.int k)++[]) := .run hn .nil
  obtain ⟨v,hv,hrv⟩:=run_part (cs := .run k m xs .nil) (off:=i.toNat) (s := .int k (xs.getD i.toNat 0)) hok hrun (by
   simp only [rdCells,aggT,hd2,SL.one]
   rw [if_neg (by simp),if_pos (by omega)])
  have hvv:=hrv.inv_int
  subst hvv
  refine opY_same (v := .int k (xs.getD i.toNat 0)) (fun w'=>?_) .int hK
  simp only [execOp,ho,hvx,hvy,Instr.index]
  have h3:=hv w'
  simp only [List.append_nil] at h3
  simp [run_underlying hu,asIntOf,h0,h1,sizeOf,typeInfo,hinf,hisz,h3]
 ·exact hk.elim
def splice {α:Type _} (l:List α) (p:Nat) (d:List α):List α:=l.take p++d++l.drop (p+d.length)
theorem splice_get {α:Type _} {l d:List α} {p:Nat} (h:p+d.length≤l.length) (k:Nat):(splice l p d)[k]?=if k<p then l[k]? else if k<p+d.length then d[k-p]? else l[k]?:=by
 unfold splice
 have hl:(l.take p).length=p:=by simp; omega
 split
 ·rename_i hk
  rw [List.append_assoc,List.getElem?_append_left (by omega),List.getElem?_take,if_pos hk]
 ·rename_i hk
  split
  ·rename_i hk2
   rw [List.append_assoc,List.getElem?_append_right (by omega),hl,List.getElem?_append_left (by omega)]
  ·rename_i hk2
   rw [List.getElem?_append_right (by simp; omega),List.getElem?_drop]
   congr 1
   simp
   omega
theorem splice_len {α:Type _} {l d:List α} {p:Nat} (h:p+d.length≤l.length):(splice l p d).length=l.length:=by
 unfold splice
 simp
 omega
theorem splice_take {α:Type _} {l d:List α} {p m:Nat} (h:p+d.length≤m) (hm:m≤l.length):(splice l p d).take m=splice (l.take m) p d:=by
 apply List.ext_getElem?
 intro k
 rw [List.getElem?_take,splice_get (by omega),splice_get (by simp; omega),List.getElem?_take]
 by_cases hk:k<m
 ·simp only [hk,if_true]
 ·simp only [hk,if_false]
  rw [if_neg (by omega),if_neg (by omega)]
theorem splice_row {α:Type _} {l d:List α} {sz i j off:Nat} (hd:off+d.length≤sz) (hl:(j+1)*sz≤l.length) :
  ((splice l (j*sz+off) d).drop (i*sz)).take sz=if i=j then splice ((l.drop (j*sz)).take sz) off d else (l.drop (i*sz)).take sz:=by
 have hj:(j+1)*sz=j*sz+sz:=Nat.succ_mul j sz
 by_cases e:i=j
 ·subst e
  rw [if_pos rfl]
  apply List.ext_getElem?
  intro k
  rw [List.getElem?_take]
  by_cases hk:k<sz
  ·rw [if_pos hk,List.getElem?_drop,splice_get (by omega),splice_get (by simp; omega),List.getElem?_take,if_pos hk,List.getElem?_drop]
   by_cases h1:k<off
   ·rw [if_pos (by omega),if_pos h1]
   ·rw [if_neg (by omega),if_neg h1]
    by_cases h2:k<off+d.length
    ·rw [if_pos (by omega),if_pos h2]
     congr 1; omega
    ·rw [if_neg (by omega),if_neg h2]
  ·rw [if_neg hk,List.getElem?_eq_none]
   rw [splice_len (by simp; omega)]
   simp; omega
 ·rw [if_neg e]
  apply List.ext_getElem?
  intro k
  rw [List.getElem?_take,List.getElem?_take]
  by_cases hk:k<sz
  ·rw [if_pos hk,if_pos hk,List.getElem?_drop,List.getElem?_drop,splice_get (by omega)]
   rcases Nat.lt_or_ge i j with h1 | h1
   ·have:(i+1)*sz≤j*sz:=Nat.mul_le_mul_right _ h1
    rw [Nat.succ_mul] at this
    rw [if_pos (by omega)]
   ·have h2:(j+1)*sz≤i*sz:=Nat.mul_le_mul_right _ (by omega)
    rw [if_neg (by omega),if_neg (by omega)]
  ·rw [if_neg hk,if_neg hk]
theorem op_storeV {t:TypeId} {x y:Operand} (ho:o.op = .store t x y) (h:Rel E O ts sh env a w) (hk:storeV E t (evr E ts sh x) (evr E ts sh y) sh fun sh'=>K .undef sh'):OpOK E O o sh env a w K:=by
 unfold storeV at hk
 split at hk
 case h_2=>exact op_store ho h hk
 rename_i i j size off ex
 split at hk
 case h_2=>exact op_store ho h (by rw [ex]; exact hk)
 have hx:=evr_rep h x
 have hy:=evr_rep h y
 rw [ex] at hx
 split at hk
 case h_2=>exact hk.elim
 rename_i v' sh1 hlet
 obtain ⟨env1,hh1,hs1,hy1⟩:=letGoV_spec h.heap hlet hy
 split at hk
 case h_2=>exact hk.elim
 rename_i e xs hi
 split at hk
 case h_2=>exact hk.elim
 rename_i d hd
 split at hk
 case isFalse=>exact hk.elim
 rename_i hlen
 split at hk
 ·exact hk.elim
 rename_i hne
 split at hk
 case isFalse=>exact hk.elim
 rename_i hsize
 obtain ⟨hj,hk⟩:=hk
 have hk:=hk xs[j] (List.getElem?_eq_getElem hj)
 split at hk
 case h_2=>exact hk.elim
 rename_i cs hput
 split at hk
 case h_2=>exact hk.elim
 rename_i y' hdec
 obtain ⟨heqv,hk⟩:=hk
 obtain ⟨v0,vs,hb,hown,hrows⟩:=hh1.svec hi
 obtain ⟨b,n,c,hv1,hv2⟩:=slAt_some (hx.step hs1).inv_vptr hb
 subst hv1
 subst hsize
 obtain ⟨hrd,hone⟩:=rep_toSL hh1 hd hy1
 have hrow:=hrows j _ (List.getElem?_eq_getElem hj)
 obtain ⟨hr2,hfit⟩:=hrow.put hrd hput
 have hsz:tsize E.P t=(a.eval y).cells.size:=by rw [← hlen,← hrd.length]; simp
 obtain ⟨hvl,hown2⟩:=hown
 rcases hown2 with ⟨hc,_⟩ | ⟨g,cap,cur,hg1,_,hg3,hg4,hg5,hg6,hg7⟩
 ·cases hc
 simp only [Value.slice.injEq,Option.some.injEq,Addr.mk.injEq,and_true] at hg1
 obtain ⟨rfl,rfl,rfl⟩:=hg1
 have hD:(a.eval y).cells.toList.length=(a.eval y).cells.size:=by simp
 have hrowl:((vs.drop (j*E.C.size e)).take (E.C.size e)).length=E.C.size e:=by
  have h1:(j+1)*E.C.size e≤xs.length*E.C.size e:=Nat.mul_le_mul_right _ hj
  rw [Nat.succ_mul] at h1
  simp [hvl]; omega
 rw [hrowl] at hfit
 have h1:(j+1)*E.C.size e≤vs.length:=by rw [hvl]; exact Nat.mul_le_mul_right _ hj
 have h2:vs.length≤cur.toList.length:=by rw [hvl]; simp [hg6]; exact Nat.mul_le_mul_right _ hg4
 have h3:(j+1)*E.C.size e=j*E.C.size e+E.C.size e:=Nat.succ_mul _ _
 have hcl:w.heap[b]?=some (.cells cur.toList.toArray e (0,0)):=by simpa using hg3
 have hrun:=run_storeVar (P:=E.P) (w:=w) (off:=j*E.C.size e+off) hsz hne hcl (by rw [← hD]; omega) hone
 have hset:cur.toList.take (j*E.C.size e+off)++(a.eval y).cells.toList++cur.toList.drop (j*E.C.size e+off+(a.eval y).cells.size)=splice cur.toList (j*E.C.size e+off) (a.eval y).cells.toList:=by
  unfold splice; rw [hD]
 rw [hset] at hrun
 have hst:=step_setRow (w:=w) hb (show (Wit.sl (Value.slice (some ⟨b,0,none⟩) xs.length c)).owns b from rfl) (splice cur.toList (j*E.C.size e+off) (a.eval y).cells.toList).toArray
 intro next Q hn
 unfold Oper.wp
 have hex:(execOp a.eval o).run E.P w = .ok .skip (w.setRow b (splice cur.toList (j*E.C.size e+off) (a.eval y).cells.toList).toArray):=by
  simp only [execOp,ho,hv2,Instr.storeAt,Instr.sureAddr]
  simp [hrun]
 rw [hex]
 rw [setNth_eq] at hk
 refine hn _ _ _ _ _ .undef (hh1.set hb rfl _ ?_) (hs1.trans hst) (fun hq=>by simp [quietOp,ho] at hq) hk
 refine ⟨splice vs (j*E.C.size e+off) (a.eval y).cells.toList,⟨by rw [splice_len (by omega),hvl]; simp,.inr ⟨b,c,_,by simp,Nat.zero_le _,setRow_heap w b _ _ e (0,0) hg3,by simpa using hg4,hg5,?_,?_⟩⟩,fun k z hz=>?_⟩
 ·simp only [List.size_toArray]
  rw [splice_len (by omega)]
  simpa using hg6
 ·rw [List.toList_toArray,splice_take (by rw [List.length_set,← hvl]; omega) (by rw [List.length_set,← hvl]; exact h2)]
  rw [List.length_set]
  rw [hg7]
 ·rw [splice_row (by omega) h1]
  split
  ·rename_i e1
   subst e1
   have hk':k<xs.length:=hj
   rw [List.getElem?_set_self hk'] at hz
   cases hz
   have h5:=eqvL_rep heqv hr2
   have h6:(List.take off (List.take (E.C.size e) (List.drop (k*E.C.size e) vs))++(a.eval y).cells.toList++List.drop (off+(a.eval y).cells.toList.length) (List.take (E.C.size e) (List.drop (k*E.C.size e) vs)))=splice ((vs.drop (k*E.C.size e)).take (E.C.size e)) off (a.eval y).cells.toList:=rfl
   rw [← h6]
   exact h5.step hst
  ·rename_i e1
   rw [List.getElem?_set_ne (fun e2=>e1 e2.symm)] at hz
   exact (hrows k z hz).step hst
end
end Go.Eng

/-! The engine's operations are right: maps. Conditions: none. -/
namespace Go.Eng
open Go
variable {A:Nat→Type}
def setB (w:World) (b:Nat) (o:Obj):World:={ w with heap:=w.heap.setIfInBounds b o }
theorem setB_same {w:World} {b:Nat} {o o':Obj} (h:w.heap[b]?=some o'):(setB w b o).heap[b]?=some o:=by
 have hl:b<w.heap.size:=(Array.getElem?_eq_some_iff.1 h).1
 simp [setB,hl]
theorem setB_other {w:World} {b b':Nat} {o:Obj} (h:b'≠b):(setB w b o).heap[b']?=w.heap[b']?:=by
 simp only [setB]
 exact Array.getElem?_setIfInBounds_ne (fun e=>h e.symm)
section
variable {O:Nat→Prop} {env:List Wit} {w:World} {C:Enc A} {sh:List (SO A)}
theorem step_setB {i b:Nat} {x:Wit} (hx:env[i]?=some x) (hb:x.owns b) (o:Obj):Step env w env (setB w b o):=
 ⟨rfl,rfl,rfl,by simp [setB],Nat.le_refl _,fun _ x h=>⟨x,h,.refl x⟩,fun _ h => .inl h,fun b' _ hn=>setB_other (fun e=>hn (e▸⟨i,x,hx,hb⟩))⟩
theorem HR.setM (h:HR O env w C sh) {i b:Nat} {x:Wit} {so:SO A} (hx:env[i]?=some x) (hb:x.owns b) (o:Obj)
  (hr:ORep O env (setB w b o) C so x):HR O env (setB w b o) C (sh.set i so) where
 len:=by simp [h.len]
 rep:=fun j so' x' h1 h2=>by
  by_cases e:i=j
  ·subst e
   have hl:i<sh.length:=by have:=(List.getElem?_eq_some_iff.1 h1).1; simpa using this
   rw [List.getElem?_set_self hl] at h1
   rw [hx] at h2
   cases h1; cases h2
   exact hr
  ·rw [List.getElem?_set_ne e] at h1
   refine (h.rep j so' x' h1 h2).step (step_setB hx hb o) (fun b' hb'=>setB_other (fun e'=>?_))
   subst e'
   exact e (h.disj i j x x' b' hx h2 hb hb')
 disj:=h.disj
 out:=h.out
 lt:=fun b' hb'=>by simpa [setB] using h.lt b' hb'
 olt:=fun b' hb'=>by simpa [setB] using h.olt b' hb'
theorem HR.newM (h:HR O env w C sh) (kt vt:Nat) :
  HR O (env++[.mb w.heap.size]) (w.alloc (.map #[] 0)) C (sh++[.smap kt vt [] []])∧Step env w (env++[.mb w.heap.size]) (w.alloc (.map #[] 0)):=by
 refine h.push (w':=w.alloc (.map #[] 0)) ⟨rfl,rfl,rfl,by simp,fun g hg _=>heap_alloc_old w _ hg⟩ (.mb w.heap.size) (fun b hb=>by simp only [Wit.owns] at hb; omega) (fun b hb=>by simp only [Wit.owns] at hb; subst hb; simp) (.smap kt vt [] []) (fun _=>?_)
 exact ⟨[],0,heap_alloc_new w _,rfl,rfl,List.nodup_nil,by simp,by simp⟩
/-- Integers alone: one value stands for them. -/
theorem plain_one:∀ {cs:SL A} {us vs:List Value},plainInts cs=true→RepL O env w C cs us→RepL O env w C cs vs→us=vs
 | .nil,_,_,_,h1,h2=>by rw [h1.inv_nil,h2.inv_nil]
 | .cell s r,_,_,hp,h1,h2=>by
  unfold plainInts at hp
  obtain ⟨u,us,rfl,h3,h4⟩:=h1.inv_cell
  obtain ⟨v,vs,rfl,h5,h6⟩:=h2.inv_cell
  split at hp
  ·rename_i e; cases e
  ·rename_i e; cases e
   rw [h3.inv_int,h5.inv_int,plain_one hp h4 h6]
  ·rename_i e; cases e
  ·cases hp
 | .run k n xs r,_,_,hp,h1,h2=>by
  unfold plainInts at hp
  obtain ⟨us,_,rfl,h3⟩:=h1.inv_run
  obtain ⟨vs,_,rfl,h4⟩:=h2.inv_run
  rw [plain_one hp h3 h4]
def isInt:Value→Bool
 | .int _ _=>true
 | _=>false
theorem plain_ints:∀ {cs:SL A} {us:List Value},plainInts cs=true→RepL O env w C cs us→∀ u∈us,isInt u=true
 | .nil,_,_,h1=>by rw [h1.inv_nil]; simp
 | .cell s r,_,hp,h1=>by
  unfold plainInts at hp
  obtain ⟨u,us,rfl,h3,h4⟩:=h1.inv_cell
  split at hp
  ·rename_i e; cases e
  ·rename_i e; cases e
   intro x hx
   rcases List.mem_cons.1 hx with rfl | hx
   ·rw [h3.inv_int]; rfl
   ·exact plain_ints hp h4 x hx
  ·rename_i e; cases e
  ·cases hp
 | .run k n xs r,_,hp,h1=>by
  unfold plainInts at hp
  obtain ⟨us,_,rfl,h3⟩:=h1.inv_run
  intro x hx
  rcases List.mem_append.1 hx with hx | hx
  ·obtain ⟨y,_,rfl⟩:=List.mem_map.1 hx; rfl
  ·exact plain_ints hp h3 x hx
theorem sameBits_ints (n:Nat):∀ {us:List Value},(∀ u∈us,isInt u=true)→((us.zip us).all fun (x,y)=>Instr.sameBits n x y)=true
 | [],_=>rfl
 | u::us,h=>by
  have h1:=h u List.mem_cons_self
  have h2:=sameBits_ints n (us:=us) (fun x hx=>h x (List.mem_cons_of_mem _ hx))
  cases u<;>simp [isInt] at h1
  simp only [List.zip_cons_cons,List.all_cons,h2,Bool.and_true]
  simp [Instr.sameBits]
theorem run_stays {P:Program} {us:List Value} (h:∀ u∈us,isInt u=true):(Instr.keyThatStays (.agg us.toArray) (.agg us.toArray)).run P w = .ok (.agg us.toArray) w:=by
 have h1:Instr.sameBits 10000 (.agg us.toArray) (.agg us.toArray)=true:=by
  rw [Instr.sameBits]
  simp only [beq_self_eq_true,Bool.true_and]
  exact sameBits_ints _ h
 simp [Instr.keyThatStays,h1]
end
section
variable {E:Eng A} {O:Nat→Prop} {ts:List (SV A)} {sh:List (SO A)} {env:List Wit} {a:Act} {w:World} {o:Oper} {K:Pred A}
theorem okMap_spec {kt vt:TypeId} (h:okMap E kt vt=true):E.keyT kt=true∧E.eqT kt=true∧tsize E.P kt=E.C.size kt∧tsize E.P vt=E.C.size vt∧tsize E.P vt≠0∧E.C.agg vt=aggT E.P vt∧zeroAgg E.P vt=aggT E.P vt:=by
 unfold okMap at h
 split at h
 ·rename_i h1
  split at h
  ·rename_i h2
   split at h
   ·split at h
    ·rename_i h3
     split at h
     ·rename_i h4
      split at h
      ·cases h
      ·rename_i h5
       split at h
       ·rename_i h6
        split at h
        ·rename_i h7; exact ⟨h1,h2,h3,h4,h5,h6,h7⟩
        ·cases h
       ·cases h
     ·cases h
    ·cases h
   ·cases h
  ·cases h
 ·cases h
/-- Keys held against each other. -/
theorem run_keq {kt:TypeId} (hk:E.keyT kt=true) (he:E.eqT kt=true) {x y:A kt} {us vs:List Value} (hx:RepL O env w E.C (E.C.enc kt x) us) (hy:RepL O env w E.C (E.C.enc kt y) vs) (w':World) :
  ∃ b,(Op.equal kt (.agg us.toArray) (.agg vs.toArray)).run E.P w' = .ok b w'∧(b=true↔x=y):=by
 obtain ⟨b,h1,h2⟩:=E.keyOk kt hk x y
 refine ⟨b,?_,h2⟩
 unfold keqS at h1
 split at h1
 ·rename_i fs hd
  have hu:=under_of_desc hd (by simp)
  have hf:E.P.fieldsOf kt=fs:=by simp [Program.fieldsOf,hu]
  have h3:=run_eqFs (E:=E) (w:=w) rfl 9997 hx hy w' h1
  show (Op.equalIn 10000 kt _ _).run E.P w'=_
  rw [run_equalIn_struct w' 9999 kt _ _ (by rw [hf]; exact hu) (E.eqOk kt he).1,hf]
  exact h3
 ·exact run_eq1 (E:=E) (w:=w) 9998 h1 (.agg us hx) (.agg vs hy) w'
 ·cases h1
theorem run_check1 {t:TypeId} {x y:SV A} {b:Bool} {v:Value} (em:Bool) (d:Nat) (h:eq1 E.P t x y=some b) (hx:Rep O env w E.C x v) (w':World):(Instr.checkKey em (d+2) t v).run E.P w' = .ok () w':=by
 unfold eq1 at h
 split at h
 ·rename_i k0 hd
  split at h
  ·rename_i k p l k' q m h1 h2
   rw [rep_asInt h1 hx]
   simp [Instr.checkKey,run_underlying (under_of_desc hd (by simp))]
  ·cases h
 ·rename_i n e hd
  split at h
  ·rename_i k0 hde
   split at h
   ·rename_i hsz
    split at h
    ·rename_i k m xs k' m' ys
     split at h
     ·split at h
      ·rename_i hm
       subst hm
       obtain ⟨us,rfl,hr⟩:=hx.inv_agg
       obtain ⟨us',h1,rfl,h2⟩:=hr.inv_run
       rw [h2.inv_nil,List.append_nil]
       obtain ⟨i,hi,his⟩:=info_of_tsize (P:=E.P) (t:=e) hsz (by omega)
       have hue:=under_of_desc hde (by simp)
       have hnagg:aggT E.P e=false:=by simp [aggT,hde]
       have hnd:desc E.P e ≠ .invalid:=by rw [hde]; simp
       rw [Instr.checkKey]
       simp only [Sem.run_bind,run_underlying (under_of_desc hd (by simp)),Result.andThen_ok]
       simp only [Std.Legacy.Range.forIn_eq_forIn_range',Std.Legacy.Range.size,Nat.sub_zero,Nat.add_one_sub_one,Nat.div_one]
       have each:∀ j∈List.range' 0 m,j<m:=fun j hj=>by simpa using hj
       generalize List.range' 0 m=is at each
       induction is with
       | nil=>simp
       | cons j is ih=>
        have hj:=each j (by simp)
        have hc:((xs.map (Value.int k)).toArray:Array Value)[j]?=some (.int k (xs[j]'(by omega))):=by simp [h1,hj]
        have hc1:=cellsOf_eq (P:=E.P) hsz (by omega)
        have p1:(part e (xs.map (Value.int k)).toArray (j*E.P.cellsOf e)).run E.P w' = .ok (.int k (xs[j]'(by omega))) w':=by
         simp only [part,Sem.run_bind,under_not hnagg hnd,Result.andThen_ok,hc1,Nat.mul_one]
         simp [hc]
        have p2:(Instr.checkKey em (d+1) e (.int k (xs[j]'(by omega)))).run E.P w' = .ok () w':=by
         simp [Instr.checkKey,run_underlying hue]
        simp only [List.forIn_cons,Sem.run_bind,run_sizeOf w' hi,Result.andThen_ok,p1,p2,Sem.run_pure]
        exact ih (fun y hy=>each y (by simp [hy]))
      ·cases h
     ·cases h
    ·cases h
   ·cases h
  ·cases h
 ·cases h
theorem run_checkFs {cs:SL A} {us:List Value} (em:Bool) (d:Nat) (hx:RepL O env w E.C cs us) (w':World):∀ {fs:List Field} {b:Bool},eqFs E.P cs cs fs=some b →
  ∀ f ∈ fs, f.name ≠ "_" ∧ ∃ v, (part f.type us.toArray f.offset).run E.P w' = .ok v w' ∧ (Instr.checkKey em (d + 2) f.type v).run E.P w' = .ok () w'
 | [],b,_,f,hf=>by cases hf
 | g::fs,b,h,f,hf=>by
  simp only [eqFs] at h
  split at h
  ·cases h
  ·rename_i hn
   split at h
   ·rename_i hok
    split at h
    ·rename_i p q hp hq
     split at h
     ·rename_i r s hr hs
      rcases List.mem_cons.1 hf with rfl | hf
      ·obtain ⟨v1,h1,h2⟩:=run_part hok hx hp
       rw [hp] at hq; cases hq
       exact ⟨hn,v1,h1 w',run_check1 em d hr h2 w'⟩
      ·exact run_checkFs em d hx w' hs f hf
     ·cases h
    ·cases h
   ·cases h
theorem run_checkK {kt:TypeId} (em:Bool) (hk:E.keyT kt=true) {x:A kt} {us:List Value} (hx:RepL O env w E.C (E.C.enc kt x) us) (w':World):(Instr.checkKey em 10000 kt (.agg us.toArray)).run E.P w' = .ok () w':=by
 obtain ⟨b,h1,_⟩:=E.keyOk kt hk x x
 unfold keqS at h1
 split at h1
 ·rename_i fs hd
  have each:=run_checkFs em 9997 hx w' h1
  rw [show 10000=9999+1 from rfl,Instr.checkKey]
  simp only [Sem.run_bind,run_underlying (under_of_desc hd (by simp)),Result.andThen_ok]
  rw [← Array.forIn_toList]
  generalize fs.toList=L at each
  induction L with
  | nil=>simp
  | cons f L ih=>
   obtain ⟨hn,v,p1,p2⟩:=each f (by simp)
   simp only [List.forIn_cons,Sem.run_bind,hn,ne_eq,not_false_eq_true,if_true,Result.andThen_ok,p1,p2,Sem.run_pure]
   exact ih (fun y hy=>each y (by simp [hy]))
 ·exact run_check1 em 9998 h1 (.agg us hx) w'
 ·cases h1
/-- Where a key stands. -/
theorem run_findAsk {kt vt:TypeId} (hk:E.keyT kt=true) (he:E.eqT kt=true) {y:A kt} {us:List Value} (hy:RepL O env w E.C (E.C.enc kt y) us) (w':World):∀ {es:List (A kt×A vt)} {ms:List MapEntry} (i:Nat),ms.length=es.length →
  (∀ (j:Nat) p m,es[j]?=some p→ms[j]?=some m→∃ vs:List Value,m.key = .agg vs.toArray∧RepL O env w E.C (E.C.enc kt p.1) vs) →
  ((Instr.findAsking kt (.agg us.toArray) ms i).run E.P w' = .ok none w'∧mfind y es=none) ∨
  ∃ j z m,(Instr.findAsking kt (.agg us.toArray) ms i).run E.P w' = .ok (some (i+j,m.val)) w'∧mfind y es=some (j,z)∧es[j]?=some (y,z)∧ms[j]?=some m
 | [],[],i,_,_ => .inl ⟨by simp [Instr.findAsking],rfl⟩
 | [],_::_,i,h,_=>by simp at h
 | _::_,[],i,h,_=>by simp at h
 | p::es,m::ms,i,hl,hm=>by
  obtain ⟨vs,h1,h2⟩:=hm 0 p m rfl rfl
  obtain ⟨b,hr,hiff⟩:=run_keq hk he hy h2 w'
  cases hb:b with
  | true=>
   rw [hb] at hr hiff
   have e:y=p.1:=hiff.1 rfl
   refine .inr ⟨0,p.2,m,by simp [Instr.findAsking,h1,hr],by simp [mfind,e],by rw [e]; rfl,rfl⟩
  | false=>
   rw [hb] at hr hiff
   have hne:¬p.1=y:=fun e=>by have:=hiff.2 e.symm; cases this
   rcases run_findAsk hk he hy w' (es:=es) (ms:=ms) (i+1) (by simpa using hl) (fun j p' m' hp hm'=>hm (j+1) p' m' (by simpa using hp) (by simpa using hm')) with ⟨h3,h4⟩ | ⟨j,z,m',h3,h4,h5,h6⟩
   ·exact .inl ⟨by simp [Instr.findAsking,h1,hr,h3],by simp [mfind,hne,h4]⟩
   ·exact .inr ⟨j+1,z,m',by simp [Instr.findAsking,h1,hr,h3,Nat.add_assoc,Nat.add_comm 1 j],by simp [mfind,hne,h4],by simpa using h5,by simpa using h6⟩
theorem run_findK {kt vt:TypeId} (hk:E.keyT kt=true) (he:E.eqT kt=true) {y:A kt} {us:List Value} (hy:RepL O env w E.C (E.C.enc kt y) us) (w':World) {es:List (A kt×A vt)} {ms:List MapEntry} (hl:ms.length=es.length)
  (hm:∀ (j:Nat) p m,es[j]?=some p→ms[j]?=some m→∃ vs:List Value,m.key = .agg vs.toArray∧RepL O env w E.C (E.C.enc kt p.1) vs) :
  ((Instr.findKey kt (.agg us.toArray) ms).run E.P w' = .ok none w'∧mfind y es=none) ∨
  ∃ j z m,(Instr.findKey kt (.agg us.toArray) ms).run E.P w' = .ok (some (j,m.val)) w'∧mfind y es=some (j,z)∧es[j]?=some (y,z)∧ms[j]?=some m:=by
 have hkind:∃ kd,E.P.underlying kt=some kd∧∀ u v,Instr.sameNow kd u v=none:=by
  obtain ⟨b,h1,_⟩:=E.keyOk kt hk y y
  unfold keqS at h1
  split at h1
  ·rename_i fs hd; exact ⟨_,under_of_desc hd (by simp),fun u v=>by simp [Instr.sameNow]⟩
  ·rename_i n e hd; exact ⟨_,under_of_desc hd (by simp),fun u v=>by simp [Instr.sameNow]⟩
  ·cases h1
 obtain ⟨kd,hu,hs⟩:=hkind
 have hrun:(Instr.findKey kt (.agg us.toArray) ms).run E.P w'=(Instr.findAsking kt (.agg us.toArray) ms 0).run E.P w':=by
  cases ms with
  | nil=>simp [Instr.findKey,run_underlying hu,Instr.findNow,Instr.findAsking]
  | cons m ms=>simp [Instr.findKey,run_underlying hu,Instr.findNow,hs]
 rw [hrun]
 rcases run_findAsk hk he hy w' 0 hl hm with h | ⟨j,z,m,h1,h2⟩
 ·exact .inl h
 ·exact .inr ⟨j,z,m,by simpa using h1,h2⟩
theorem keyS_spec (hh:HR O env w E.C sh) {kt:Nat} {s:SV A} {v:Value} {K':A kt→Prop} (hk:keyS E kt s sh K') (hr:Rep O env w E.C s v) :
  ∃ y us,v = .agg (List.toArray us)∧RepL O env w E.C (E.C.enc kt y) us∧(∀ u∈us,isInt u=true)∧K' y:=by
 unfold keyS at hk
 split at hk
 case h_2=>exact hk.elim
 split at hk
 case h_2=>exact hk.elim
 rename_i cs hcs
 split at hk
 case h_2=>exact hk.elim
 rename_i y hy
 split at hk
 case isFalse=>exact hk.elim
 rename_i hp
 obtain ⟨us,rfl,_⟩:=hr.inv_agg
 obtain ⟨h1,_⟩:=rep_toSL hh hcs hr
 simp only [Value.cells] at h1
 exact ⟨y,us,rfl,eqvL_rep hk.1 h1,plain_ints hp h1,hk.2⟩
theorem op_makeMap {t:TypeId} {r:Option Operand} (ho:o.op = .makeMap t r) (h:Rel E O ts sh env a w) (hk:makeMapS E t r sh K):OpOK E O o sh env a w K:=by
 unfold makeMapS at hk
 split at hk
 case h_1=>exact hk.elim
 split at hk
 case h_2=>exact hk.elim
 rename_i kt vt hd
 split at hk
 case isFalse=>exact hk.elim
 obtain ⟨h1,h2⟩:=h.heap.newM kt vt
 rw [snoc_eq] at hk
 refine opOK_of_run (v := .map (some w.heap.size)) ?_ (.ptr ?_) h1 h2 (fun _=>Old.alloc _ _) hk
 ·simp [execOp,ho,Instr.makeMap]
 ·rw [cnt_eq,h.heap.len]
  simp [refAt]
theorem cellV_rep {vt:TypeId} (hag:E.C.agg vt=aggT E.P vt) {z:A vt} {v:Value} {s:SV A} (hr:ValR O env w E.C vt z v) (hs:cellV E.P vt (E.C.enc vt z)=some s):Rep O env w E.C s v:=by
 unfold ValR at hr
 rw [hag] at hr
 unfold cellV at hs
 split at hs
 ·rename_i hg
  rw [if_pos hg] at hr
  obtain ⟨us,rfl,h1⟩:=hr
  cases hs
  exact .agg us h1
 ·rename_i hg
  rw [if_neg hg] at hr
  split at hs
  ·rename_i s' e
   cases hs
   rw [e] at hr
   obtain ⟨u,us,h1,h2,_⟩:=hr.inv_cell
   cases h1
   exact h2
  ·cases hs
/-- The zero of an element. -/
theorem zero_val {vt:TypeId} (hza:zeroAgg E.P vt=aggT E.P vt) {zs:SL A} {s:SV A} (hz:tyZero E.P vt=some zs) (hs:cellV E.P vt zs=some s):∃ zv:Value,(∀ w',(zeroValue vt).run E.P w' = .ok zv w')∧Rep O env w E.C s zv ∧
  (if aggT E.P vt=true then ∃ us:List Value,zv = .agg us.toArray∧RepL O env w E.C zs us else RepL O env w E.C zs [zv]):=by
 obtain ⟨i,zv,hi,hiz,hr⟩:=tyZero_spec hz
 have hr:=hr O env w E.C
 refine ⟨zv,fun w'=>by simp [zeroValue,typeInfo,hi,hiz],?_⟩
 unfold cellV at hs
 split at hs
 ·rename_i hg
  cases hs
  rw [if_pos hg]
  have hag:∃ us:Array Value,zv = .agg us:=by
   rw [hg] at hza
   cases zv<;>simp [zeroAgg,hi,hiz] at hza ⊢
  obtain ⟨us,rfl⟩:=hag
  simp only [Value.cells] at hr
  have h2:Rep O env w E.C (.agg zs) (.agg us.toList.toArray) := .agg us.toList hr
  exact ⟨by simpa using h2,us.toList,by simp,hr⟩
 ·rename_i hg
  rw [if_neg hg]
  split at hs
  ·rename_i s'
   cases hs
   obtain ⟨u,us,h1,h2,h3⟩:=hr.inv_cell
   rw [h3.inv_nil] at h1
   have hne:zv.cells=#[u]:=Array.toList_inj.1 h1
   have hzv:zv=u:=by
    cases zv<;>simp [Value.cells] at hne<;>first | exact hne | skip
    rename_i us
    simp only [zeroAgg,hi,hiz] at hza
    exact absurd hza.symm hg
   rw [hzv]
   exact ⟨h2,.cell h2 .nil⟩
  ·cases hs
end
end Go.Eng

/-! The engine's operations are right: maps read and written. Conditions: none. -/
namespace Go.Eng
open Go
variable {A:Nat→Type}
section
variable {E:Eng A} {O:Nat→Prop} {ts:List (SV A)} {sh:List (SO A)} {env:List Wit} {a:Act} {w:World} {o:Oper} {K:Pred A}
theorem op_lookup {t:TypeId} {m x:Operand} {ok:Bool} (ho:o.op = .lookup t m x ok) (h:Rel E O ts sh env a w) (hk:lookupS E t (evr E ts sh m) (evr E ts sh x) ok sh fun v=>K v sh):OpOK E O o sh env a w K:=by
 have hm:=evr_rep h m
 have hx:=evr_rep h x
 have key:∀ (v:Value) (s:SV A),(Instr.lookup t (a.eval m) (a.eval x) ok).run E.P w = .ok v w→Rep O env w E.C s v→K s sh→OpOK E O o sh env a w K:=by
  intro v s hrun hr hK
  exact opOK_same (v:=v) (by simp only [execOp,ho]; simp [hrun]) hr h hK
 generalize evr E ts sh m=sm at hm hk
 generalize evr E ts sh x=sx at hx hk
 generalize a.eval m=vm at hm key
 generalize a.eval x=vx at hx key
 unfold lookupS at hk
 split at hk
 case h_2=>exact hk.elim
 rename_i kt vt hd
 split at hk
 case h_2=>exact hk.elim
 rename_i i off
 split at hk
 case h_2=>exact hk.elim
 rename_i kt' vt' es st hi
 split at hk
 case isFalse=>exact hk.elim
 rename_i e1
 split at hk
 case isFalse=>exact hk.elim
 rename_i e2
 split at hk
 case isFalse=>exact hk.elim
 rename_i hok
 subst e1; subst e2
 obtain ⟨h1,h2,h3,h4,h5,h6,h7⟩:=okMap_spec hok
 obtain ⟨b,hb,ms,clock,hheap,hlen,hst,hnd,hcl,hall⟩:=h.heap.smap hi
 have hvm:=refAt_mb hm.inv_ptr hb
 subst hvm
 obtain ⟨y,us,rfl,hy,hint,hk1,hk2⟩:=keyS_spec h.heap hk hx
 have hu:=under_of_desc hd (by simp)
 have hck:=fun em=>run_checkK (E:=E) em h1 hy w
 rcases run_findK h1 h2 hy w hlen (fun j p m hp hm=>(hall j p m hp hm).1) with ⟨f1,f2⟩ | ⟨j,z,mm,f1,f2,f3,f4⟩
 ·have hk2:=hk2 f2
  split at hk2
  case h_2=>exact hk2.elim
  rename_i zs hzs
  split at hk2
  case h_2=>exact hk2.elim
  rename_i s hs
  obtain ⟨zv,hz1,hz2,_⟩:=zero_val (O:=O) (env:=env) (w:=w) h7 hzs hs
  cases ok with
  | true=>exact key (.tuple [zv,.bool false].toArray) _ (by simp [Instr.lookup,run_underlying hu,MapKept.run_getObj_map hheap,hck,f1,hz1]) (.tup _ (.cell hz2 (.cell .bl .nil))) hk2
  | false=>exact key zv _ (by simp [Instr.lookup,run_underlying hu,MapKept.run_getObj_map hheap,hck,f1,hz1]) hz2 hk2
 ·have hk1:=hk1 j z f2
  split at hk1
  case h_2=>exact hk1.elim
  rename_i s hs
  have hr:=cellV_rep h6 (hall j (y,z) mm f3 f4).2 hs
  cases ok with
  | true=>exact key (.tuple [mm.val,.bool true].toArray) _ (by simp [Instr.lookup,run_underlying hu,MapKept.run_getObj_map hheap,hck,f1]) (.tup _ (.cell hr (.cell .bl .nil))) hk1
  | false=>exact key mm.val _ (by simp [Instr.lookup,run_underlying hu,MapKept.run_getObj_map hheap,hck,f1]) hr hk1
theorem op_lenM {c:Call} {t:TypeId} {x:Operand} (ho:o.op = .call c) (hc:c.callee = .builtin .len) (hat:c.argTypes=#[t]) (har:c.args=#[x]) {k v:TypeId} (hd:desc E.P t = .map k v) (h:Rel E O ts sh env a w)
  (hk:builtinS E .len [t] [evr E ts sh x] sh K):OpOK E O o sh env a w K:=by
 have hx:=evr_rep h x
 generalize evr E ts sh x=sx at hx hk
 simp only [builtinS,hd] at hk
 split at hk
 case h_2=>exact hk.elim
 rename_i i off
 have key:∀ (kt vt:Nat) (es:List (A kt×A vt)) (st:List Int) (b:Nat),env[i]?=some (.mb b)→MapR O env w E.C kt vt es st b→K (.int .i64 (es.length:Nat)) sh→OpOK E O o sh env a w K:=by
  intro kt vt es st b hb hm hk
  obtain ⟨ms,clock,hheap,hlen,_⟩:=hm
  have hv:=refAt_mb hx.inv_ptr hb
  have hu:=under_of_desc hd (by simp)
  refine opOK_same (v := .int .i64 (es.length:Nat)) (callee_builtin hc ho (f:=Builtin.len_) (fun _ _ _ _=>rfl) ?_) .int h hk
  rw [hat,har]
  simp only [List.map_toArray,List.map_cons,List.map_nil,hv]
  simp [Builtin.len_,run_underlying hu,MapKept.run_getObj_map hheap,goInt,hlen]
 split at hk
 ·rename_i kt vt es st hi
  obtain ⟨b,hb,hm⟩:=h.heap.smap hi
  exact key _ _ _ _ b hb hm hk
 ·rename_i kt vt es hi
  obtain ⟨b,st,hb,hm⟩:=h.heap.amap hi
  exact key _ _ _ _ b hb hm hk
 ·rename_i kt vt es st c hi
  obtain ⟨b,hb,hm⟩:=h.heap.rmap hi
  exact key _ _ _ _ b hb hm.toR hk
 ·exact hk.elim
/-- A value that goes into a map. -/
theorem valS_spec {vt:Nat} (hag:E.C.agg vt=aggT E.P vt) {s:SV A} {v:Value} {K':A vt→List (SO A)→Prop} (hh:HR O env w E.C sh) (hk:valS E vt s sh K') (hr:Rep O env w E.C s v) :
  ∃ z sh1 env1,HR O env1 w E.C sh1∧Step env w env1 w∧ValR O env1 w E.C vt z v∧K' z sh1:=by
 unfold valS at hk
 split at hk
 case h_2=>exact hk.elim
 rename_i v' sh1 hlet
 split at hk
 case isFalse=>exact hk.elim
 rename_i hsa
 split at hk
 case h_2=>exact hk.elim
 rename_i cs hcs
 split at hk
 case h_2=>exact hk.elim
 rename_i z hz
 obtain ⟨heq,hK⟩:=hk
 obtain ⟨env1,h1,h2,h3⟩:=letGoV_spec hh hlet hr
 obtain ⟨h4,h5⟩:=rep_toSL h1 hcs h3
 have h6:=eqvL_rep heq h4
 refine ⟨z,sh1,env1,h1,h2,?_,hK⟩
 unfold ValR
 rw [hag,← hsa]
 cases v'
 case agg cs0=>
  obtain ⟨us,rfl,_⟩:=h3.inv_agg
  rw [if_pos (by rfl)]
  exact ⟨us,rfl,by simpa [Value.cells] using h6⟩
 all_goals
  rw [if_neg (by simp [isAgg'])]
  simp only [toSL] at hcs
  split at hcs
  ·rename_i hone
   obtain ⟨_,hc⟩:=oneCell_alive h1 hone h3
   rw [hc] at h6
   simpa using h6
  ·cases hcs
theorem set_modify {α:Type _} (l:List α) (j:Nat) (f:α→α) (x:α) (h:l[j]?=some x):l.modify j f=l.set j (f x):=by
 apply List.ext_getElem?
 intro i
 rw [List.getElem?_modify,List.getElem?_set]
 have hl:j<l.length:=(List.getElem?_eq_some_iff.1 h).1
 by_cases e:j=i
 ·subst e
  rw [List.getElem?_eq_getElem hl] at h
  cases h
  simp [hl]
 ·simp [e]
/-- A map's entry is changed. -/
theorem MapR.set {kt vt:Nat} {es:List (A kt×A vt)} {b:Nat} {ms:List MapEntry} {clock:Nat} {C:Enc A} {w':World} {env':List Wit} {j:Nat} {m' m0:MapEntry}
  (hb:w'.heap[b]?=some (.map (ms.set j m').toArray clock)) (hlen:ms.length=es.length) (hnd:(ms.map fun m=>((m.born:Nat):Int)).Nodup) (hcl:∀ m∈ms,m.born<clock)
  (hm:ms[j]?=some m0) (hborn:m'.born=m0.born)
  (hall:∀ (i:Nat) p m,es[i]?=some p→ms[i]?=some m→(∃ us:List Value,m.key = .agg us.toArray∧RepL O env' w' C (C.enc kt p.1) us)∧ValR O env' w' C vt p.2 m.val)
  {y:A kt} {z:A vt} (hnew:(∃ us:List Value,m'.key = .agg us.toArray∧RepL O env' w' C (C.enc kt y) us)∧ValR O env' w' C vt z m'.val) :
  MapR O env' w' C kt vt (es.set j (y,z)) (ms.map fun m=>((m.born:Nat):Int)) b:=by
 have hjl:j<ms.length:=(List.getElem?_eq_some_iff.1 hm).1
 have hmap:(ms.set j m').map (fun m=>((m.born:Nat):Int))=ms.map fun m=>((m.born:Nat):Int):=by
  apply List.ext_getElem?
  intro i
  rw [List.getElem?_map,List.getElem?_map,List.getElem?_set]
  by_cases e:j=i
  ·subst e
   rw [List.getElem?_eq_getElem hjl] at hm
   cases hm
   simp [hjl,hborn]
  ·simp [e]
 refine ⟨ms.set j m',clock,hb,by simp [hlen],hmap.symm,hnd,fun m hmem=>?_,fun i p m hp hm'=>?_⟩
 ·rcases List.mem_or_eq_of_mem_set hmem with h | h
  ·exact hcl m h
  ·rw [h,hborn]; exact hcl m0 (List.mem_of_getElem? hm)
 ·rw [List.getElem?_set] at hp hm'
  by_cases e:j=i
  ·subst e
   simp only [if_true,hjl,← hlen] at hp hm'
   cases hp; cases hm'
   exact hnew
  ·rw [if_neg e] at hp hm'
   exact hall i p m hp hm'
/-- A map has one entry more. -/
theorem MapR.push {kt vt:Nat} {es:List (A kt×A vt)} {b:Nat} {ms:List MapEntry} {clock:Nat} {C:Enc A} {w':World} {env':List Wit} {key val:Value}
  (hb:w'.heap[b]?=some (.map (ms++[(⟨key,val,clock⟩:MapEntry)]).toArray (clock+1))) (hlen:ms.length=es.length) (hnd:(ms.map fun m=>((m.born:Nat):Int)).Nodup) (hcl:∀ m∈ms,m.born<clock)
  (hall:∀ (i:Nat) p m,es[i]?=some p→ms[i]?=some m→(∃ us:List Value,m.key = .agg us.toArray∧RepL O env' w' C (C.enc kt p.1) us)∧ValR O env' w' C vt p.2 m.val)
  {y:A kt} {z:A vt} (hnew:(∃ us:List Value,key = .agg us.toArray∧RepL O env' w' C (C.enc kt y) us)∧ValR O env' w' C vt z val) :
  MapR O env' w' C kt vt (es++[(y,z)]) ((ms.map fun m=>((m.born:Nat):Int))++[((clock:Nat):Int)]) b:=by
 refine ⟨ms++[(⟨key,val,clock⟩:MapEntry)],clock+1,hb,by simp [hlen],by simp,?_,fun m hmem=>?_,fun i p m hp hm'=>?_⟩
 ·rw [List.nodup_append]
  refine ⟨hnd,by simp,fun x hx y' hy e=>?_⟩
  obtain ⟨m,hm,rfl⟩:=List.mem_map.1 hx
  have:=hcl m hm
  simp only [List.mem_singleton] at hy
  omega
 ·rcases List.mem_append.1 hmem with h | h
  ·have:=hcl m h; omega
  ·simp only [List.mem_singleton] at h; subst h; simp
 ·rcases Nat.lt_or_ge i ms.length with hi | hi
  ·rw [List.getElem?_append_left (by omega)] at hp
   rw [List.getElem?_append_left hi] at hm'
   exact hall i p m hp hm'
  ·rw [List.getElem?_append_right (by omega)] at hp
   rw [List.getElem?_append_right hi] at hm'
   cases hij:i-ms.length with
   | zero=>
    rw [hij] at hm'
    rw [← hlen,hij] at hp
    simp at hp hm'
    subst hp; subst hm'
    exact hnew
   | succ n=>rw [hij] at hm'; simp at hm'
/-- What is written into a map's entry. -/
theorem op_mapUpdate {t:TypeId} {m k x:Operand} (ho:o.op = .mapUpdate t m k x∨o.op = .insert t m k x) (h:Rel E O ts sh env a w) (hk:mapUpdateS E t (evr E ts sh m) (evr E ts sh k) (evr E ts sh x) sh K):OpOK E O o sh env a w K:=by
 have hm:=evr_rep h m
 have hkk:=evr_rep h k
 have hx:=evr_rep h x
 have hq:quietOp E o.op=false:=by rcases ho with ho | ho<;>rw [ho]<;>rfl
 have key:∀ (w':World) (s:SV A) (sh':List (SO A)) (env':List Wit),(Instr.mapUpdate t (a.eval m) (a.eval k) (a.eval x)).run E.P w = .ok () w'→s = .undef→HR O env' w' E.C sh'→Step env w env' w'→K s sh'→OpOK E O o sh env a w K:=by
  intro w' s sh' env' hrun hs hh hst hK next Q hn
  subst hs
  unfold Oper.wp
  have:(execOp a.eval o).run E.P w = .ok .skip w':=by
   rcases ho with ho | ho<;>simp only [execOp,ho]<;>simp [hrun]
  rw [this]
  exact hn _ _ _ _ _ .undef hh hst (fun h=>by rw [hq] at h; cases h) hK
 generalize evr E ts sh m=sm at hm hk
 generalize evr E ts sh k=sk at hkk hk
 generalize evr E ts sh x=sx at hx hk
 generalize a.eval m=vm at hm key
 generalize a.eval k=vk at hkk key
 generalize a.eval x=vx at hx key
 unfold mapUpdateS at hk
 split at hk
 case h_2=>exact hk.elim
 rename_i kt vt hd
 split at hk
 case h_2=>exact hk.elim
 rename_i i off
 split at hk
 case h_2=>exact hk.elim
 rename_i kt' vt' es0 st0 hi
 split at hk
 case isFalse=>exact hk.elim
 rename_i e1
 split at hk
 case isFalse=>exact hk.elim
 rename_i e2
 split at hk
 case isFalse=>exact hk.elim
 rename_i hok
 subst e1; subst e2
 obtain ⟨h1,h2,h3,h4,h5,h6,h7⟩:=okMap_spec hok
 obtain ⟨b,hb,_⟩:=h.heap.smap hi
 have hvm:=refAt_mb hm.inv_ptr hb
 subst hvm
 obtain ⟨y,us,rfl,hy,hint,hk⟩:=keyS_spec h.heap hk hkk
 obtain ⟨z,sh1,env1,hh1,hs1,hval,hk⟩:=valS_spec h6 h.heap hk hx
 split at hk
 case h_2=>exact hk.elim
 rename_i kt2 vt2 es st hi2
 split at hk
 case isFalse=>exact hk.elim
 rename_i e3
 split at hk
 case isFalse=>exact hk.elim
 rename_i e4
 subst e3; subst e4
 simp only [castM] at hk
 obtain ⟨hk1,hk2⟩:=hk
 obtain ⟨b1,hb1,ms,clock,hheap,hlen,hst,hnd,hcl,hall⟩:=hh1.smap hi2
 have hbb:b1=b:=by
  obtain ⟨y',h8,h9⟩:=hs1.keep i _ hb
  rw [hb1] at h8
  cases h8
  rcases h9 with e | e | ⟨_,e,_⟩<;>cases e
  rfl
 subst hbb
 subst hst
 have hu:=under_of_desc hd (by simp)
 have hy1:=hy.step hs1
 have hck:=fun em=>run_checkK (E:=E) em h1 hy1 w
 rcases run_findK h1 h2 hy1 w hlen (fun j p m hp hm=>(hall j p m hp hm).1) with ⟨f1,f2⟩ | ⟨j,z0,mm,f1,f2,f3,f4⟩
 ·have hstep:=step_setB (w:=w) hb1 (show (Wit.mb b1).owns b1 from rfl) (.map (ms++[(⟨.agg us.toArray,vx,clock⟩:MapEntry)]).toArray (clock+1))
  have hmap:=MapR.push (O:=O) (C:=E.C) (setB_same (o := .map (ms++[(⟨.agg us.toArray,vx,clock⟩:MapEntry)]).toArray (clock+1)) hheap) hlen hnd hcl (fun i p m hp hm=>by
   obtain ⟨⟨vs,g1,g2⟩,g3⟩:=hall i p m hp hm
   exact ⟨⟨vs,g1,g2.step hstep⟩,g3.imp fun _ h=>h.step hstep⟩) ⟨⟨us,rfl,hy1.step hstep⟩,hval.imp fun _ h=>h.step hstep⟩
  have hset:=hh1.setM hb1 (show (Wit.mb b1).owns b1 from rfl) (.map (ms++[(⟨.agg us.toArray,vx,clock⟩:MapEntry)]).toArray (clock+1)) (so := .smap _ _ _ _) hmap
  have hK:=hk2 f2 ((clock:Nat):Int)
  rw [setNth_eq] at hK
  refine key _ _ _ _ ?_ rfl hset (hs1.trans hstep) hK
  simp [Instr.mapUpdate,run_underlying hu,MapKept.run_getObj_map hheap,hck,f1,MapKept.run_setObj_map _ hheap,Result.andThen,setB]
 ·obtain ⟨⟨vs,g1,g2⟩,_⟩:=hall j _ mm f3 f4
  have hvs:vs=us:=plain_one (E.keyPl _ h1 y) g2 hy1
  subst hvs
  have hstep:=step_setB (w:=w) hb1 (show (Wit.mb b1).owns b1 from rfl) (.map (ms.set j ⟨.agg vs.toArray,vx,mm.born⟩).toArray clock)
  have hmap:=MapR.set (O:=O) (C:=E.C) (setB_same (o := .map (ms.set j ⟨.agg vs.toArray,vx,mm.born⟩).toArray clock) hheap) hlen hnd hcl f4 rfl (fun i p m hp hm=>by
   obtain ⟨⟨vs,g1,g2⟩,g3⟩:=hall i p m hp hm
   exact ⟨⟨vs,g1,g2.step hstep⟩,g3.imp fun _ h=>h.step hstep⟩) ⟨⟨vs,rfl,hy1.step hstep⟩,hval.imp fun _ h=>h.step hstep⟩
  have hset:=hh1.setM hb1 (show (Wit.mb b1).owns b1 from rfl) (.map (ms.set j ⟨.agg vs.toArray,vx,mm.born⟩).toArray clock) (so := .smap _ _ _ _) hmap
  have hK:=hk1 j z0 f2
  rw [setNth_eq] at hK
  refine key _ _ _ _ ?_ rfl hset (hs1.trans hstep) hK
  have hmod:(ms.toArray.modify j fun e=>{ e with key := .agg vs.toArray,val:=vx })=(ms.set j ⟨.agg vs.toArray,vx,mm.born⟩).toArray:=by
   apply Array.toList_inj.1
   rw [Array.toList_modify,set_modify _ _ _ mm (by simpa using f4)]
  have hst2:=run_stays (P:=E.P) (w:=w) hint
  simp [Instr.mapUpdate,run_underlying hu,MapKept.run_getObj_map hheap,hck,f1,f4,g1,hst2,MapKept.run_setObj_map _ hheap,Result.andThen,setB,← hmod]
/-- An entry that is to be written. -/
theorem op_mapEntry {t:TypeId} {m k:Operand} (ho:o.op = .mapEntry t m k) (h:Rel E O ts sh env a w) (hk:mapEntryS E t (evr E ts sh m) (evr E ts sh k) sh K):OpOK E O o sh env a w K:=by
 have hm:=evr_rep h m
 have hkk:=evr_rep h k
 have key:∀ (v:Value) (w':World) (s:SV A) (sh':List (SO A)) (env':List Wit),(Instr.mapEntry t (a.eval m) (a.eval k)).run E.P w = .ok v w'→Rep O env' w' E.C s v→HR O env' w' E.C sh'→Step env w env' w'→K s sh'→OpOK E O o sh env a w K:=by
  intro v w' s sh' env' hrun hr hh hst hK
  exact opOK_of_run (by simp only [execOp,ho]; simp [hrun]) hr hh hst (fun hq=>by simp [quietOp,ho] at hq) hK
 generalize evr E ts sh m=sm at hm hk
 generalize evr E ts sh k=sk at hkk hk
 generalize a.eval m=vm at hm key
 generalize a.eval k=vk at hkk key
 unfold mapEntryS at hk
 split at hk
 case h_2=>exact hk.elim
 rename_i kt vt hd
 split at hk
 case h_2=>exact hk.elim
 rename_i i off
 split at hk
 case h_2=>exact hk.elim
 rename_i kt' vt' es st hi
 split at hk
 case isFalse=>exact hk.elim
 rename_i e1
 split at hk
 case isFalse=>exact hk.elim
 rename_i e2
 split at hk
 case isFalse=>exact hk.elim
 rename_i hok
 subst e1; subst e2
 obtain ⟨h1,h2,h3,h4,h5,h6,h7⟩:=okMap_spec hok
 obtain ⟨b1,hb1,ms,clock,hheap,hlen,hst,hnd,hcl,hall⟩:=h.heap.smap hi
 have hvm:=refAt_mb hm.inv_ptr hb1
 subst hvm
 obtain ⟨y,us,rfl,hy,hint,hk1,hk2⟩:=keyS_spec h.heap hk hkk
 have hu:=under_of_desc hd (by simp)
 have hck:=fun em=>run_checkK (E:=E) em h1 hy w
 subst hst
 rcases run_findK h1 h2 hy w hlen (fun j p m hp hm=>(hall j p m hp hm).1) with ⟨f1,f2⟩ | ⟨j,z0,mm,f1,f2,f3,f4⟩
 ·have hk2:=hk2 f2 ((clock:Nat):Int) (fun hmem=>by
   obtain ⟨m,hm,e⟩:=List.mem_map.1 hmem
   have:=hcl m hm
   omega) (by simp [hlen])
  split at hk2
  case h_2=>exact hk2.elim
  rename_i zs hzs
  split at hk2
  case h_2=>exact hk2.elim
  rename_i s z hs hz
  obtain ⟨heq,hK⟩:=hk2
  obtain ⟨zv,hz1,hz2,hz3⟩:=zero_val (O:=O) (env:=env) (w:=w) h7 hzs hs
  have hval:ValR O env w E.C _ z zv:=by
   unfold ValR
   rw [h6]
   split at hz3
   ·rename_i hg
    rw [if_pos hg]
    obtain ⟨us,g1,g2⟩:=hz3
    exact ⟨us,g1,eqvL_rep heq g2⟩
   ·rename_i hg
    rw [if_neg hg]
    exact eqvL_rep heq hz3
  have hstep:=step_setB (w:=w) hb1 (show (Wit.mb b1).owns b1 from rfl) (.map (ms++[(⟨.agg us.toArray,zv,clock⟩:MapEntry)]).toArray (clock+1))
  have hmap:=MapR.push (O:=O) (C:=E.C) (setB_same (o := .map (ms++[(⟨.agg us.toArray,zv,clock⟩:MapEntry)]).toArray (clock+1)) hheap) hlen hnd hcl (fun i p m hp hm=>by
   obtain ⟨⟨vs,g1,g2⟩,g3⟩:=hall i p m hp hm
   exact ⟨⟨vs,g1,g2.step hstep⟩,g3.imp fun _ h=>h.step hstep⟩) ⟨⟨us,rfl,hy.step hstep⟩,hval.imp fun _ h=>h.step hstep⟩
  have hset:=h.heap.setM hb1 (show (Wit.mb b1).owns b1 from rfl) (.map (ms++[(⟨.agg us.toArray,zv,clock⟩:MapEntry)]).toArray (clock+1)) (so := .smap _ _ _ _) hmap
  rw [setNth_eq] at hK
  refine key (.tuple [zv,.int .i64 ((clock:Nat):Int)].toArray) _ _ _ _ ?_ (.tup _ (.cell (hz2.step hstep) (.cell .int .nil))) hset hstep hK
  simp [Instr.mapEntry,run_underlying hu,MapKept.run_getObj_map hheap,hck,f1,hz1,MapKept.run_setObj_map _ hheap,Result.andThen,setB,goInt]
 ·obtain ⟨⟨vs,g1,g2⟩,gv⟩:=hall j _ mm f3 f4
  have hvs:vs=us:=plain_one (E.keyPl _ h1 y) g2 hy
  subst hvs
  have hk1:=hk1 j z0 f2 ((mm.born:Nat):Int) (by rw [List.getElem?_map,f4]; rfl)
  split at hk1
  case h_2=>exact hk1.elim
  rename_i s hs
  have hr:=cellV_rep h6 gv hs
  have hmod:(ms.modify j fun e=>{ e with key := .agg vs.toArray })=ms:=by
   rw [set_modify _ _ _ mm f4]
   apply List.ext_getElem?
   intro i
   rw [List.getElem?_set]
   by_cases e:j=i
   ·subst e
    have hjl:j<ms.length:=(List.getElem?_eq_some_iff.1 f4).1
    rw [List.getElem?_eq_getElem hjl] at f4
    have f5:=Option.some.inj f4
    simp only [if_true,hjl,List.getElem?_eq_getElem,f5,← g1]
   ·simp [e]
  have hst2:=run_stays (P:=E.P) (w:=w) hint
  have hsame:setB w b1 (.map ms.toArray clock)=w:=by
   have hl:b1<w.heap.size:=(Array.getElem?_eq_some_iff.1 hheap).1
   have hg:w.heap[b1] = .map ms.toArray clock:=by
    rw [Array.getElem?_eq_getElem hl] at hheap
    exact Option.some.inj hheap
   unfold setB
   rw [← hg]
   have:w.heap.setIfInBounds b1 w.heap[b1]=w.heap:=by
    apply Array.ext_getElem?
    intro i
    rw [Array.getElem?_setIfInBounds]
    split
    ·rename_i e; subst e; simp [hl]
    ·rfl
   rw [this]
  refine key (.tuple [mm.val,.int .i64 ((mm.born:Nat):Int)].toArray) w _ _ _ ?_ (.tup _ (.cell hr (.cell .int .nil))) h.heap (Step.refl _ _) hk1
  have hset:({ w with heap:=w.heap.setIfInBounds b1 (.map ms.toArray clock) }:World)=w:=hsame
  simp [Instr.mapEntry,run_underlying hu,MapKept.run_getObj_map hheap,hck,f1,f4,g1,hst2,MapKept.run_setObj_map _ hheap,Result.andThen,hmod,hset,goInt]
/-- An entry's value is written. -/
theorem op_entryStore {t:TypeId} {m k x:Operand} (ho:o.op = .entryStore t m k x) (h:Rel E O ts sh env a w) (hk:entryStoreS E t (evr E ts sh m) (evr E ts sh k) (evr E ts sh x) sh K):OpOK E O o sh env a w K:=by
 have hm:=evr_rep h m
 have hkk:=evr_rep h k
 have hx:=evr_rep h x
 have key:∀ (w':World) (s:SV A) (sh':List (SO A)) (env':List Wit),(Instr.entryStore t (a.eval m) (a.eval k) (a.eval x)).run E.P w = .ok () w'→s = .undef→HR O env' w' E.C sh'→Step env w env' w'→K s sh'→OpOK E O o sh env a w K:=by
  intro w' s sh' env' hrun hs hh hst hK next Q hn
  subst hs
  unfold Oper.wp
  have:(execOp a.eval o).run E.P w = .ok .skip w':=by
   simp only [execOp,ho]
   simp [hrun]
  rw [this]
  exact hn _ _ _ _ _ .undef hh hst (fun h=>by rw [ho] at h; cases h) hK
 generalize evr E ts sh m=sm at hm hk
 generalize evr E ts sh k=sk at hkk hk
 generalize evr E ts sh x=sx at hx hk
 generalize a.eval m=vm at hm key
 generalize a.eval k=vk at hkk key
 generalize a.eval x=vx at hx key
 unfold entryStoreS at hk
 split at hk
 case h_2=>exact hk.elim
 rename_i kt vt hd
 split at hk
 case h_2=>exact hk.elim
 rename_i i off
 split at hk
 case h_2=>exact hk.elim
 rename_i kt' vt' es0 st0 hi
 split at hk
 case isFalse=>exact hk.elim
 rename_i e1
 split at hk
 case isFalse=>exact hk.elim
 rename_i e2
 split at hk
 case isFalse=>exact hk.elim
 rename_i hok
 subst e1; subst e2
 obtain ⟨h1,h2,h3,h4,h5,h6,h7⟩:=okMap_spec hok
 obtain ⟨b,hb,_⟩:=h.heap.smap hi
 have hvm:=refAt_mb hm.inv_ptr hb
 subst hvm
 split at hk
 case h_2=>exact hk.elim
 rename_i born
 have hvk:=hkk.inv_int
 subst hvk
 obtain ⟨z,sh1,env1,hh1,hs1,hval,hk⟩:=valS_spec h6 h.heap hk hx
 split at hk
 case h_2=>exact hk.elim
 rename_i kt2 vt2 es st hi2
 split at hk
 case isFalse=>exact hk.elim
 rename_i e3
 split at hk
 case isFalse=>exact hk.elim
 rename_i e4
 subst e3; subst e4
 simp only [castM] at hk
 obtain ⟨j,hj,hK⟩:=hk
 obtain ⟨b1,hb1,ms,clock,hheap,hlen,hst,hnd,hcl,hall⟩:=hh1.smap hi2
 have hbb:b1=b:=by
  obtain ⟨y',h8,h9⟩:=hs1.keep i _ hb
  rw [hb1] at h8
  cases h8
  rcases h9 with e | e | ⟨_,e,_⟩<;>cases e
  rfl
 subst hbb
 subst hst
 rw [List.getElem?_map] at hj
 obtain ⟨mm,f4,hborn⟩:=Option.map_eq_some_iff.1 hj
 have hjl:j<ms.length:=(List.getElem?_eq_some_iff.1 f4).1
 have f3:es[j]?=some es[j]:=List.getElem?_eq_getElem (by omega)
 obtain ⟨⟨vs,g1,g2⟩,_⟩:=hall j _ mm f3 f4
 have hfind:ms.toArray.findIdx? (fun e=>((e.born:Nat):Int)==born)=some j:=by
  rw [List.findIdx?_toArray,List.findIdx?_eq_some_iff_getElem]
  have hmj:ms[j]=mm:=by rw [List.getElem?_eq_getElem hjl] at f4; exact Option.some.inj f4
  refine ⟨hjl,by simp [hmj,hborn],fun i hi=>?_⟩
  simp only [beq_iff_eq]
  intro e
  have h1:(ms.map fun m=>((m.born:Nat):Int))[i]?=some born:=by rw [List.getElem?_map,List.getElem?_eq_getElem (by omega)]; simpa using e
  have h2:(ms.map fun m=>((m.born:Nat):Int))[j]?=some born:=by rw [List.getElem?_map,f4]; simpa using hborn
  have:=(List.getElem?_inj (by simp; omega) hnd).1 (h1.trans h2.symm)
  omega
 have hstep:=step_setB (w:=w) hb1 (show (Wit.mb b1).owns b1 from rfl) (.map (ms.set j ⟨mm.key,vx,mm.born⟩).toArray clock)
 have hmap:=MapR.set (O:=O) (C:=E.C) (setB_same (o := .map (ms.set j ⟨mm.key,vx,mm.born⟩).toArray clock) hheap) hlen hnd hcl f4 rfl (fun i p m hp hm=>by
  obtain ⟨⟨vs,g1,g2⟩,g3⟩:=hall i p m hp hm
  exact ⟨⟨vs,g1,g2.step hstep⟩,g3.imp fun _ h=>h.step hstep⟩) ⟨⟨vs,g1,g2.step hstep⟩,hval.imp fun _ h=>h.step hstep⟩
 have hset:=hh1.setM hb1 (show (Wit.mb b1).owns b1 from rfl) (.map (ms.set j ⟨mm.key,vx,mm.born⟩).toArray clock) (so := .smap _ _ _ _) hmap
 rw [setNth_eq,mapSet,set_modify _ _ _ _ f3] at hK
 refine key _ _ _ _ ?_ rfl hset (hs1.trans hstep) hK
 have hmod:(ms.toArray.modify j fun e=>{ e with val:=vx })=(ms.set j ⟨mm.key,vx,mm.born⟩).toArray:=by
  apply Array.toList_inj.1
  rw [Array.toList_modify,set_modify _ _ _ mm (by simpa using f4)]
 simp [Instr.entryStore,MapKept.run_getObj_map hheap,Go.asInt,asIntOf,hfind,MapKept.run_setObj_map _ hheap,Result.andThen,setB,← hmod]
end
end Go.Eng

/-! The engine's operations are right: a row of bytes, turned to its own type. Conditions: none. -/
namespace Go.Eng
open Go
variable {A:Nat→Type}
theorem freeze_at {w:World} {b n:Nat} {cs:Array Value} {e:TypeId} (hb:w.heap[b]?=some (.cells cs e (0,0))) :
  (w.freeze ⟨b,n,none⟩ 1).heap[b]?=some (.cells cs e (n,n+1))∧(∀ b',b'≠b→(w.freeze ⟨b,n,none⟩ 1).heap[b']?=w.heap[b']?)∧(w.freeze ⟨b,n,none⟩ 1).heap.size=w.heap.size ∧
   (w.freeze ⟨b,n,none⟩ 1).os=w.os∧(w.freeze ⟨b,n,none⟩ 1).tape=w.tape∧(w.freeze ⟨b,n,none⟩ 1).output=w.output:=by
 unfold World.freeze
 rw [if_neg (by decide)]
 refine ⟨?_,fun b' hne=>?_,by simp,rfl,rfl,rfl⟩
 ·simp only [Array.getElem?_modify,hb,if_true,Option.map_some]
  rfl
 ·simp only [Array.getElem?_modify]
  rw [if_neg (fun h=>hne h.symm)]
theorem freeze_cell {w:World} {b n:Nat} {cs:Array Value} {e:TypeId} (hb:w.heap[b]?=some (.cells cs e (0,0))) (a:Addr):(w.freeze ⟨b,n,none⟩ 1).cell? a=w.cell? a:=by
 obtain ⟨h1,h2,_⟩:=freeze_at (n:=n) hb
 unfold World.cell?
 by_cases e:a.block=b
 ·rw [e,h1,hb]
 ·rw [h2 _ e]
theorem run_same {P:Program} {w:World} {t e:TypeId} {b n c:Nat} {cs:Array Value} {e':TypeId} (ht:P.underlying t=some (.slice e)) (he:P.underlying e=some (.int .u8)) (hb:w.heap[b]?=some (.cells cs e' (0,0))) :
  (Go.convert t t (.slice (some ⟨b,0,none⟩) n c)).run P w = .ok (.slice (some ⟨b,0,none⟩) n c) (w.freeze ⟨b,cs.size,none⟩ 1):=by
 have hsh:w.shape? b=some (e',cs.size):=by
  unfold World.shape?
  rw [hb]
 simp [Go.convert,run_underlying ht,run_underlying he,markStringish,hsh]
section
variable {E:Eng A} {O:Nat→Prop} {ts:List (SV A)} {sh:List (SO A)} {env:List Wit} {a:Act} {w:World} {o:Oper} {K:Pred A}
theorem op_same {d:TypeId} {x:Operand} (ho:o.op = .convert d d x) (h:Rel E O ts sh env a w) (hk:sameS E d (evr E ts sh x) sh K):OpOK E O o sh env a w K:=by
 have hx:=evr_rep h x
 generalize evr E ts sh x=sx at hx hk
 unfold sameS at hk
 split at hk
 case h_2=>exact hk.elim
 rename_i e hd
 split at hk
 case h_2=>exact hk.elim
 rename_i hu8
 split at hk
 case h_2=>exact hk.elim
 rename_i i
 split at hk
 case h_2=>exact hk.elim
 rename_i e' k xs hi
 obtain ⟨hne,hK⟩:=hk
 obtain ⟨u,hb,hown⟩:=h.heap.ivec hi
 have hv:=slAt_some hx.inv_vec hb
 subst hv
 rcases hown.2 with ⟨h1,h2⟩ | ⟨g,cap,cur,h1,h3,h4,h5,h6,h7,h8⟩
 ·exact absurd (List.eq_nil_of_length_eq_zero h2) hne
 obtain ⟨f1,f2,f3,f4,f5,f6⟩:=freeze_at (n:=cur.size) h4
 have hrun:=run_same (P:=E.P) (n:=xs.length) (c:=cap) (under_of_desc hd (by simp)) (under_of_desc hu8 (by simp)) h4
 have hiown:(Wit.sl (a.eval x)).owns g:=by simp [Wit.owns,h1,Value.ownBlock]
 have hstep:Step env w (env.set i (.ro (a.eval x))) (w.freeze ⟨g,cur.size,none⟩ 1):=by
  refine ⟨f4,f5,f6,by rw [f3]; exact Nat.le_refl _,by simp,fun j y hj=>(Step.freeze (w:=w) hb).keep j y hj,fun b hb' => .inl (owned_set_ro hb'),fun b' _ hn=>f2 b' (fun e=>hn (e▸⟨i,_,hb,hiown⟩))⟩
 have hrep:Rep O (env.set i (.ro (a.eval x))) (w.freeze ⟨g,cur.size,none⟩ 1) E.C (.rints k xs) (a.eval x):=by
  rw [h1]
  refine .rints _ _ h5 h6 (.inr ⟨g,0,rfl,h.heap.out g ⟨i,_,hb,hiown⟩,fun ⟨j,y,hj,hoj⟩=>?_,fun j v hv=>?_⟩)
  ·rcases get_set_ro hj with ⟨_,rfl⟩ | ⟨hne',hj'⟩
   ·exact hoj.elim
   ·exact hne' (h.heap.disj j i y _ g hj' hb hoj hiown)
  ·rw [freeze_cell h4,Nat.zero_add]
   have hcell:=own_cell (h1▸hown) j v hv
   exact hcell
 have hheap:HR O (env.set i (.ro (a.eval x))) (w.freeze ⟨g,cur.size,none⟩ 1) E.C (sh.set i (.fr (.rints k xs))):=by
  refine ⟨by simp [h.heap.len],fun j so y h9 h10=>?_,fun p q y z b h9 h10 hy hz=>?_,fun b hb'=>h.heap.out b (owned_set_ro hb'),fun b hb'=>by rw [f3]; exact h.heap.lt b (owned_set_ro hb'),fun b hb'=>by rw [f3]; exact h.heap.olt b hb'⟩
  ·rcases get_set_ro h10 with ⟨rfl,rfl⟩ | ⟨hne',h11⟩
   ·have hl:j<sh.length:=by have:=(List.getElem?_eq_some_iff.1 h9).1; simpa using this
    rw [List.getElem?_set_self hl] at h9
    cases h9
    exact hrep
   ·rw [List.getElem?_set_ne (Ne.symm hne')] at h9
    exact (h.heap.rep j so y h9 h11).step hstep (fun b hb'=>f2 b (fun e=>hne' (h.heap.disj j i y _ g h11 hb (e▸hb') hiown)))
  ·rcases get_set_ro h9 with ⟨_,rfl⟩ | ⟨_,h9⟩
   ·exact hy.elim
   ·rcases get_set_ro h10 with ⟨_,rfl⟩ | ⟨_,h10⟩
    ·exact hz.elim
    ·exact h.heap.disj p q y z b h9 h10 hy hz
 rw [setNth_eq] at hK
 refine opOK_of_run (v:=a.eval x) ?_ hrep hheap hstep (fun hq=>?_) hK
 ·simp only [execOp,ho]
  rw [h1,Sem.run_bind,hrun]
  rfl
 ·simp [quietOp,ho] at hq
end
end Go.Eng

/-! The engine's operations are right: an entry of a map that goes; the entries of a map, one after the other. Conditions: none. -/
namespace Go.Eng
open Go
variable {A:Nat→Type}
/-- A map's entry is gone. -/
theorem MapR.erase {O:Nat→Prop} {kt vt:Nat} {es:List (A kt×A vt)} {b:Nat} {ms:List MapEntry} {clock:Nat} {C:Enc A} {w':World} {env':List Wit} {j:Nat}
  (hb:w'.heap[b]?=some (.map (ms.eraseIdx j).toArray clock)) (hlen:ms.length=es.length) (hnd:(ms.map fun m=>((m.born:Nat):Int)).Nodup) (hcl:∀ m∈ms,m.born<clock) (hj:j<ms.length)
  (hall:∀ (i:Nat) p m,es[i]?=some p→ms[i]?=some m→(∃ us:List Value,m.key = .agg us.toArray∧RepL O env' w' C (C.enc kt p.1) us)∧ValR O env' w' C vt p.2 m.val) :
  MapR O env' w' C kt vt (es.eraseIdx j) ((ms.map fun m=>((m.born:Nat):Int)).eraseIdx j) b:=by
 have hmap:(ms.map fun m=>((m.born:Nat):Int)).eraseIdx j=(ms.eraseIdx j).map fun m=>((m.born:Nat):Int):=by
  apply List.ext_getElem?
  intro i
  simp only [List.getElem?_eraseIdx,List.getElem?_map]
  split<;>rfl
 refine ⟨ms.eraseIdx j,clock,hb,by rw [List.length_eraseIdx,List.length_eraseIdx,hlen],hmap,hnd.sublist (List.eraseIdx_sublist _ _),fun m hm=>hcl m (List.mem_of_mem_eraseIdx hm),fun i p m hp hm=>?_⟩
 rw [List.getElem?_eraseIdx] at hp hm
 split at hp
 ·rename_i hi
  rw [if_pos hi] at hm
  exact hall i p m hp hm
 ·rename_i hi
  rw [if_neg hi] at hm
  exact hall (i+1) p m hp hm
section
variable {E:Eng A} {O:Nat→Prop} {ts:List (SV A)} {sh:List (SO A)} {env:List Wit} {a:Act} {w:World} {o:Oper} {K:Pred A}
theorem op_delete {c:Call} {t u:TypeId} {m k:Operand} (ho:o.op = .call c) (hc:c.callee = .builtin .delete) (hat:c.argTypes=#[t,u]) (har:c.args=#[m,k]) {sm sk:SV A} (hm:Rep O env w E.C sm (a.eval m)) (hkk:Rep O env w E.C sk (a.eval k)) (hh:HR O env w E.C sh)
  (hk:deleteS E t sm sk sh K):OpOK E O o sh env a w K:=by
 have key:∀ (v:Value) (w':World) (s:SV A) (sh':List (SO A)) (env':List Wit),(Builtin.delete_ #[t,u] o.type #[a.eval m,a.eval k]).run E.P w = .ok v w'→Rep O env' w' E.C s v→HR O env' w' E.C sh'→Step env w env' w'→K s sh'→OpOK E O o sh env a w K:=by
  intro v w' s sh' env' hrun hr hh' hst hK
  exact opOK_of_run (callee_builtin hc ho (f:=Builtin.delete_) (fun _ _ _ _=>rfl) (by rw [hat,har]; simp only [List.map_toArray,List.map_cons,List.map_nil]; exact hrun)) hr hh' hst (fun hq=>by simp [quietOp,ho,hc] at hq) hK
 generalize a.eval m=vm at hm key
 generalize a.eval k=vk at hkk key
 unfold deleteS at hk
 split at hk
 case h_2=>exact hk.elim
 rename_i kt vt hd
 split at hk
 case h_2=>exact hk.elim
 rename_i i off
 split at hk
 case h_2=>exact hk.elim
 rename_i kt' vt' es st hi
 split at hk
 case isFalse=>exact hk.elim
 rename_i e1
 split at hk
 case isFalse=>exact hk.elim
 rename_i e2
 split at hk
 case isFalse=>exact hk.elim
 rename_i hok
 subst e1; subst e2
 obtain ⟨h1,h2,h3,h4,h5,h6,h7⟩:=okMap_spec hok
 obtain ⟨b,hb,ms,clock,hheap,hlen,hst,hnd,hcl,hall⟩:=hh.smap hi
 have hvm:=refAt_mb hm.inv_ptr hb
 subst hvm
 subst hst
 obtain ⟨y,us,rfl,hy,hint,hk1,hk2⟩:=keyS_spec hh hk hkk
 have hu:=under_of_desc hd (by simp)
 have hck:=fun em=>run_checkK (E:=E) em h1 hy w
 rcases run_findK h1 h2 hy w hlen (fun j p m hp hm=>(hall j p m hp hm).1) with ⟨f1,f2⟩ | ⟨j,z,mm,f1,f2,f3,f4⟩
 ·have hstep:=step_setB (w:=w) hb (show (Wit.mb b).owns b from rfl) (.map ms.toArray clock)
  have hmap:MapR O env (setB w b (.map ms.toArray clock)) E.C kt' vt' es (ms.map fun m=>((m.born:Nat):Int)) b:=
   ⟨ms,clock,setB_same hheap,hlen,rfl,hnd,hcl,fun i p m hp hm=>by
    obtain ⟨⟨vs,g1,g2⟩,g3⟩:=hall i p m hp hm
    exact ⟨⟨vs,g1,g2.step hstep⟩,g3.imp fun _ h=>h.step hstep⟩⟩
  have hset:=hh.setM hb (show (Wit.mb b).owns b from rfl) (.map ms.toArray clock) (so := .smap _ _ _ _) hmap
  have hK:=hk2 f2
  rw [setNth_eq] at hK
  refine key (.tuple #[]) _ _ _ _ ?_ (.tup [] .nil) hset hstep hK
  simp [Builtin.delete_,run_underlying hu,MapKept.run_getObj_map hheap,hck,f1,MapKept.run_setObj_map _ hheap,Result.andThen,setB]
 ·have hjl:j<ms.length:=(List.getElem?_eq_some_iff.1 f4).1
  have hstep:=step_setB (w:=w) hb (show (Wit.mb b).owns b from rfl) (.map (ms.eraseIdx j).toArray clock)
  have hmap:=MapR.erase (O:=O) (C:=E.C) (setB_same (o := .map (ms.eraseIdx j).toArray clock) hheap) hlen hnd hcl hjl (fun i p m hp hm=>by
   obtain ⟨⟨vs,g1,g2⟩,g3⟩:=hall i p m hp hm
   exact ⟨⟨vs,g1,g2.step hstep⟩,g3.imp fun _ h=>h.step hstep⟩)
  have hset:=hh.setM hb (show (Wit.mb b).owns b from rfl) (.map (ms.eraseIdx j).toArray clock) (so := .smap _ _ _ _) hmap
  have hK:=hk1 j z f2
  rw [setNth_eq] at hK
  refine key (.tuple #[]) _ _ _ _ ?_ (.tup [] .nil) hset hstep hK
  have hera:ms.toArray.eraseIdxIfInBounds j=(ms.eraseIdx j).toArray:=by
   apply Array.toList_inj.1
   simp [Array.eraseIdxIfInBounds,hjl]
  simp [Builtin.delete_,run_underlying hu,MapKept.run_getObj_map hheap,hck,f1,MapKept.run_setObj_map _ hheap,Result.andThen,setB,hera]
/-- The entries of a map: the iterator. -/
theorem op_range {t:TypeId} {m:Operand} (ho:o.op = .range t m) (h:Rel E O ts sh env a w) (hk:rangeS E t (evr E ts sh m) sh K):OpOK E O o sh env a w K:=by
 have hm:=evr_rep h m
 generalize evr E ts sh m=sm at hm hk
 unfold rangeS at hk
 split at hk
 case h_2=>exact hk.elim
 rename_i kt vt hd
 split at hk
 case h_2=>exact hk.elim
 rename_i i off
 split at hk
 case h_2=>exact hk.elim
 rename_i kt' vt' es st hi
 obtain ⟨b,hb,ms,clock,hheap,hlen,hst,hnd,hcl,hall⟩:=h.heap.smap hi
 have hvm:=refAt_mb hm.inv_ptr hb
 have hu:=under_of_desc hd (by simp)
 have hK:=hk clock hnd (by rw [hst,List.length_map,hlen]) (fun x hx=>by
  rw [hst] at hx
  obtain ⟨y,hy,rfl⟩:=List.mem_map.1 hx
  have:=hcl y hy
  omega)
 have hh:=h.heap.say hb (show ORep O env w E.C (.rmap kt' vt' es st clock) (.mb b) from ⟨ms,hheap,hlen,hst,hnd,hcl,hall⟩)
 obtain ⟨h1,h2⟩:=hh.push (w':=w.alloc (.mapIter (some b) clock #[] clock)) ⟨rfl,rfl,rfl,by simp,fun g hg _=>heap_alloc_old w _ hg⟩ (.blk w.heap.size) (fun c hc=>by simp only [Wit.owns] at hc; omega) (fun c hc=>by simp only [Wit.owns] at hc; subst hc; simp) (.miter (.ptr i 0) clock [] clock) (fun hs=>by
  refine ⟨b,[],heap_alloc_new w _,rfl,.ptr ?_⟩
  unfold refAt
  rw [List.getElem?_append_left (List.getElem?_eq_some_iff.1 hb).1,hb])
 rw [snoc_eq] at hK
 refine opOK_of_run (v := .pointer (some ⟨w.heap.size,0,none⟩)) ?_ (.ptr ?_) h1 h2 (fun hq=>by simp [quietOp,ho] at hq) hK
 ·simp only [execOp,ho,hvm]
  simp [Instr.range,run_underlying hu,MapKept.run_getObj_map hheap]
 ·rw [cnt_eq,hh.len]
  unfold refAt
  simp
theorem HR.miter {C:Enc A} (h:HR O env w C sh) {i:Nat} {m:SV A} {since last:Nat} {seen:List Int} (hi:nth sh i=some (.miter m since seen last)) :
  ∃ (b bm:Nat) (sn:List Nat),env[i]?=some (.blk b)∧w.heap[b]?=some (.mapIter (some bm) since sn.toArray last)∧seen=sn.map (fun x=>((x:Nat):Int))∧Rep O env w C m (.map (some bm)):=by
 rw [nth_eq] at hi
 have hl:i<env.length:=by rw [← h.len]; exact (List.getElem?_eq_some_iff.1 hi).1
 have hx:env[i]?=some env[i]:=List.getElem?_eq_getElem hl
 have hr:=h.rep i _ _ hi hx
 generalize env[i]=x at hx hr
 cases x with
 | blk b=>obtain ⟨bm,sn,h1,h2,h3⟩:=hr; exact ⟨b,bm,sn,hx,h1,h2,h3⟩
 | dead=>exact hr.elim
 | ro v=>exact hr.elim
 | sl v=>exact hr.elim
 | mb b=>exact hr.elim
/-- What the tape says, whichever it is, is a place. -/
theorem run_choose {P:Program} (w:World) (n:Nat) (hn:0<n):∃ (j:Nat) (w1:World),j<n∧(w1=w∨w1=w.drew)∧(choose (Question.mapNext n)).run P w = .ok j w1:=by
 by_cases hf:n≤1
 ·exact ⟨0,w,by omega,.inl rfl,by simp [choose,Sem.run,Question.forced,hf]⟩
 ·exact ⟨_,w.drew,Nat.mod_lt _ (by omega),.inr rfl,by
   simp only [choose,Sem.run,Question.forced,decide_eq_true_eq,hf,if_false,Question.cut]
   rfl⟩
theorem run_next {P:Program} {ty:TypeId} {b bm since last clock:Nat} {sn:List Nat} {ms:List MapEntry} (hb:w.heap[b]?=some (.mapIter (some bm) since sn.toArray last)) (hm:w.heap[bm]?=some (.map ms.toArray clock))
  (h1:∀ x∈ms,x.born<since) (h2:∀ x∈ms,x.born<last) :
  ((∀ x∈ms,x.born∈sn)∧(Instr.next (.pointer (some ⟨b,0,none⟩)) false ty).run P w = .ok (.tuple #[.bool false]) w) ∨
  ∃ (j:Nat) (e:MapEntry) (w1:World),ms[j]?=some e∧e.born∉sn∧(w1=w∨w1=w.drew)∧(Instr.next (.pointer (some ⟨b,0,none⟩)) false ty).run P w = .ok (.tuple #[.bool true,e.key,e.val]) (setB w1 b (.mapIter (some bm) since (sn++[e.born]).toArray clock)):=by
 have htest:(!sn.toArray.isEmpty&&!ms.toArray.isEmpty&&ms.toArray.all (fun x=>decide (x.born≥last)))=false:=by
  cases ms with
  | nil=>simp
  | cons x l=>
   have:=h2 x List.mem_cons_self
   simp only [List.all_toArray,List.all_cons,decide_eq_false (show ¬x.born≥last by omega),Bool.false_and,Bool.and_false]
 simp only [Instr.next,getObj,Sem.run_bind,Sem.run,hb,hm,Result.andThen,htest,Bool.false_eq_true,if_false]
 have e1:(ms.toArray.filter fun e=>!sn.toArray.contains e.born)=(ms.filter fun e=>!sn.contains e.born).toArray:=by
  simp
 rw [e1]
 generalize hL:(ms.filter fun e=>!sn.contains e.born)=L
 have hmem:∀ x,x∈L↔x∈ms∧x.born∉sn:=fun x=>by
  rw [← hL,List.mem_filter]
  simp
 have e2:(L.toArray.filter fun x=>decide (x.born<since))=L.toArray:=Array.filter_eq_self.2 (fun x hx=>by simpa using h1 x ((hmem x).1 (by simpa using hx)).1)
 have e3:(L.toArray.filter fun x=>decide (x.born≥since))=#[]:=by
  rw [Array.filter_eq_empty_iff]
  intro x hx
  have:=h1 x ((hmem x).1 (by simpa using hx)).1
  simp
  omega
 simp only [e2,e3,Array.append_empty]
 by_cases h0:L=[]
 ·left
  subst h0
  refine ⟨fun x hx=>Classical.byContradiction fun hn=>?_,?_⟩
  ·exact List.not_mem_nil ((hmem x).2 ⟨hx,hn⟩)
  ·simp [choose,Sem.run,Question.forced]
 ·right
  have hne:L.toArray.isEmpty=false:=by simp [h0]
  have hpos:0<(L.toArray.map some).size:=by
   simp only [Array.size_map,List.size_toArray]
   exact List.length_pos_iff.2 h0
  obtain ⟨j,w1,hj,hw,hrun⟩:=run_choose (P:=P) w (L.toArray.map some).size hpos
  simp only [hne,Bool.false_eq_true,if_false,Array.empty_append]
  have hjl:j<L.length:=by simpa using hj
  obtain ⟨g1,g2⟩:=(hmem L[j]).1 (List.getElem_mem _)
  obtain ⟨i,hi⟩:=List.getElem?_of_mem g1
  refine ⟨i,L[j],w1,hi,g2,hw,?_⟩
  have hgo:(L.toArray.map some)[j]?=some (some L[j]):=by
   rw [Array.getElem?_map,List.getElem?_toArray,List.getElem?_eq_getElem hjl]
   rfl
  have hrun':(choose (Question.mapNext (L.toArray.map some).size)).run P w = .ok j w1:=hrun
  have hb1:w1.heap[b]?=some (.mapIter (some bm) since sn.toArray last):=by
   rcases hw with rfl | rfl
   ·exact hb
   ·exact hb
  have hset:(setObj b (.mapIter (some bm) since (sn.toArray.push L[j].born) clock)).run P w1 = .ok () (setB w1 b (.mapIter (some bm) since (sn++[L[j].born]).toArray clock)):=by
   simp only [setObj,Sem.run,hb1]
   simp [setB]
  simp only [hrun',hgo,hset,Sem.run_bind,Result.andThen]
  rfl
theorem op_next {x:Operand} {text:Bool} (ho:o.op = .next x text) (h:Rel E O ts sh env a w) (hk:nextS E (evr E ts sh x) text sh K):OpOK E O o sh env a w K:=by
 have hx:=evr_rep h x
 generalize evr E ts sh x=sx at hx hk
 unfold nextS at hk
 split at hk
 ·exact hk.elim
 rename_i htext
 split at hk
 case h_2=>exact hk.elim
 rename_i it
 split at hk
 case h_2=>exact hk.elim
 rename_i i off since seen last hit
 split at hk
 case h_2=>exact hk.elim
 rename_i kt vt es st clock hi
 split at hk
 case isFalse=>exact hk.elim
 rename_i hok
 obtain ⟨hs1,hs2,hk1,hk2⟩:=hk
 obtain ⟨g1,g2,g3,g4,g5,g6,g7⟩:=okMap_spec hok
 obtain ⟨b,bm,sn,hb,hheap,hseen,hrep⟩:=h.heap.miter hit
 obtain ⟨bm',hbm,ms,hmheap,hlen,hst,hnd,hcl,hall⟩:=h.heap.rmap hi
 have hvm:=refAt_mb hrep.inv_ptr hbm
 simp only [Value.map.injEq,Option.some.injEq] at hvm
 subst hvm
 have hv:a.eval x = .pointer (some ⟨b,0,none⟩):=by
  have:=hx.inv_ptr
  simpa [refAt,hb] using this
 have ht:text=false:=by simpa using htext
 subst ht
 subst hst
 have c1:∀ y∈ms,y.born<since:=fun y hy=>by
  have:=hs1 ((y.born:Nat):Int) (List.mem_map.2 ⟨y,hy,rfl⟩)
  omega
 have c2:∀ y∈ms,y.born<last:=fun y hy=>by
  have:=hs2 ((y.born:Nat):Int) (List.mem_map.2 ⟨y,hy,rfl⟩)
  omega
 rcases run_next (P:=E.P) (ty:=o.type) hheap hmheap c1 c2 with ⟨r1,r2⟩ | ⟨j,e,w1,r1,r2,hw,r3⟩
 ·have hK:=hk1 (fun y hy=>by
   obtain ⟨z,hz,rfl⟩:=List.mem_map.1 hy
   rw [hseen]
   exact List.mem_map.2 ⟨_,r1 z hz,rfl⟩)
  refine opOK_same (v := .tuple #[.bool false]) ?_ (.tup [.bool false] (.cell .bl .nil)) h hK
  simp only [execOp,ho,hv]
  simp [r2]
 ·have hjl:j<es.length:=by rw [← hlen]; exact (List.getElem?_eq_some_iff.1 r1).1
  obtain ⟨⟨us,k1,k2⟩,k3⟩:=hall j es[j] e (List.getElem?_eq_getElem hjl) r1
  have hK:=hk2 j es[j] ((e.born:Nat):Int) (List.getElem?_eq_getElem hjl) (by rw [List.getElem?_map,r1]; rfl) (by
   rw [hseen]
   intro hm
   obtain ⟨z,hz,hz2⟩:=List.mem_map.1 hm
   have:z=e.born:=by omega
   exact r2 (this▸hz))
  split at hK
  case h_2=>exact hK.elim
  rename_i vs hvs
  have hbl:b<w.heap.size:=(Array.getElem?_eq_some_iff.1 hheap).1
  -- the tape is not looked at
  have hS:Step env w env w1∧HR O env w1 E.C sh:=by
   rcases hw with rfl | rfl
   ·exact ⟨Step.refl _ _,h.heap⟩
   ·have hd:Step env w env w.drew:=⟨rfl,rfl,rfl,Nat.le_refl _,Nat.le_refl _,fun _ x h=>⟨x,h,.refl x⟩,fun _ h => .inl h,fun _ _ _=>rfl⟩
    exact ⟨hd,⟨h.heap.len,fun i so x h1 h2=>(h.heap.rep i so x h1 h2).step hd (fun _ _=>rfl),h.heap.disj,h.heap.out,h.heap.lt,h.heap.olt⟩⟩
  have hb1:w1.heap[b]?=some (.mapIter (some bm) since sn.toArray last):=by
   rcases hw with rfl | rfl
   ·exact hheap
   ·exact hheap
  have hst2:=step_setB (w:=w1) hb (show (Wit.blk b).owns b from rfl) (.mapIter (some bm) since (sn++[e.born]).toArray clock)
  have hset:=hS.2.setM hb (show (Wit.blk b).owns b from rfl) (.mapIter (some bm) since (sn++[e.born]).toArray clock) (so := .miter (.ptr i 0) since (seen++[((e.born:Nat):Int)]) clock) (by
   refine ⟨bm,sn++[e.born],setB_same hb1,by rw [hseen]; simp,.ptr ?_⟩
   unfold refAt
   rw [hbm])
  have hall2:=hS.1.trans hst2
  rw [setNth_eq] at hK
  have rk:Rep O env w E.C (.agg (E.C.enc kt es[j].1)) e.key:=by
   rw [k1]
   exact .agg us k2
  have rv:Rep O env w E.C vs e.val:=cellV_rep g6 k3 hvs
  refine opOK_of_run (v := .tuple #[.bool true,e.key,e.val]) ?_ (.tup [.bool true,e.key,e.val] (.cell .bl (.cell (rk.step hall2) (.cell (rv.step hall2) .nil)))) hset hall2 (fun hq=>by simp [quietOp,ho] at hq) hK
  simp only [execOp,ho,hv]
  simp [r3]
theorem op_entry {x:Operand} (ho:o.op = .entry x) (h:Rel E O ts sh env a w) (hk:entryS E (evr E ts sh x) sh fun v=>K v sh):OpOK E O o sh env a w K:=by
 have hx:=evr_rep h x
 generalize evr E ts sh x=sx at hx hk
 unfold entryS at hk
 split at hk
 case h_2=>exact hk.elim
 rename_i it
 split at hk
 case h_2=>exact hk.elim
 rename_i i off since seen last hit
 split at hk
 case h_2=>exact hk.elim
 rename_i kt vt es st c hi
 split at hk
 case isFalse=>exact hk.elim
 rename_i hok
 obtain ⟨hc,⟨y,hy1,hy2⟩,hk⟩:=hk
 obtain ⟨g1,g2,g3,g4,g5,g6,g7⟩:=okMap_spec hok
 obtain ⟨b,bm,sn,hb,hheap,hseen,hrep⟩:=h.heap.miter hit
 obtain ⟨bm',hbm,ms,hmheap,hlen,hst,hnd,hcl,hall⟩:=h.heap.rmap hi
 have hvm:=refAt_mb hrep.inv_ptr hbm
 simp only [Value.map.injEq,Option.some.injEq] at hvm
 subst hvm
 have hv:a.eval x = .pointer (some ⟨b,0,none⟩):=by
  have:=hx.inv_ptr
  simpa [refAt,hb] using this
 subst hst
 subst hc
 obtain ⟨e,he,rfl⟩:=List.mem_map.1 hy2
 obtain ⟨j,hj⟩:=List.getElem?_of_mem he
 have hjl:j<es.length:=by rw [← hlen]; exact (List.getElem?_eq_some_iff.1 hj).1
 have hK:=hk j es[j] _ hy1 (List.getElem?_eq_getElem hjl) (by rw [List.getElem?_map,hj]; rfl)
 split at hK
 case h_2=>exact hK.elim
 rename_i vs hvs
 obtain ⟨⟨us,k1,k2⟩,k3⟩:=hall j es[j] e (List.getElem?_eq_getElem hjl) hj
 have hback:sn.toArray.back?=some e.born:=by
  rw [hseen] at hy1
  rw [List.getLast?_map] at hy1
  rw [List.back?_toArray]
  cases hl:sn.getLast? with
  | none=>rw [hl] at hy1; cases hy1
  | some z=>
   rw [hl] at hy1
   simp only [Option.map_some,Option.some.injEq] at hy1
   rw [show z=e.born by omega]
 have hnd2:(ms.map (·.born)).Nodup:=by
  have h3:(ms.map fun m=>((m.born:Nat):Int))=(ms.map (·.born)).map fun x=>((x:Nat):Int):=by simp
  rw [h3] at hnd
  exact List.Pairwise.of_map (fun x:Nat=>((x:Nat):Int)) (fun a b h e=>h (by rw [e])) hnd
 have hf:ms.toArray.find? (fun z=>z.born==e.born)=some e:=by
  rw [← Array.find?_toList]
  exact find_born e ms hnd2 he
 refine opOK_same (v := .tuple #[e.key,e.val]) ?_ (.tup [e.key,e.val] (.cell ?_ (.cell (cellV_rep g6 k3 hvs) .nil))) h hK
 ·simp only [execOp,ho,hv]
  simp [Instr.entry,getObj,Sem.run,hheap,hmheap,Result.andThen,hback,hf]
 ·rw [k1]
  exact .agg us k2
end
end Go.Eng

/-! The engine is right: calls, operations, regions, code. Conditions: none. -/
namespace Go.Eng
open Go
variable {A:Nat→Type}
section
variable {E:Eng A} {O:Nat→Prop} {ts:List (SV A)} {sh:List (SO A)} {env:List Wit} {a:Act} {w:World} {o:Oper} {K:Pred A} {C:Enc A}
theorem unL_args:∀ {cs:SL A} {l:List (SV A)} {vs:List Value},unL cs=some l→RepL O env w C cs vs→ArgsR O env w C l vs
 | .nil,l,vs,h,hr=>by
  simp only [unL,Option.some.injEq] at h
  subst h
  exact hr.inv_nil
 | .cell s r,l,vs,h,hr=>by
  simp only [unL] at h
  split at h
  ·rename_i l' hl
   cases h
   obtain ⟨u,us,rfl,h1,h2⟩:=hr.inv_cell
   exact ⟨u,us,rfl,h1,unL_args hl h2⟩
  ·cases h
 | .run _ _ _ _,l,vs,h,hr=>by simp [unL] at h
theorem argsR_append:∀ {l m:List (SV A)} {us vs:List Value},ArgsR O env w C l us→ArgsR O env w C m vs→ArgsR O env w C (l++m) (us++vs)
 | [],m,us,vs,h,k=>by
  have:us=[]:=h
  subst this; exact k
 | s::l,m,us,vs,h,k=>by
  obtain ⟨u,us',rfl,h1,h2⟩:=h
  exact ⟨u,us'++vs,rfl,h1,argsR_append h2 k⟩
theorem argsR_ev (h:Rel E O ts sh env a w):∀ (l:List Operand),ArgsR O env w E.C (l.map (evr E ts sh)) (l.map a.eval)
 | []=>rfl
 | x::l=>⟨_,_,rfl,evr_rep h x,argsR_ev h l⟩
theorem op_callFn {c:Call} {f:Operand} (hTT:∀ g,Meets E.P E.C E.GL (E.qf g) g (E.TT g)) (ho:o.op = .call c) (hc:c.callee = .value f) (h:Rel E O ts sh env a w)
  (hk:match evr E ts sh f with
   | .fn (.func g) a b=>match unL a,unL b with
    | some xs,some ys=>E.TT g (xs++c.args.toList.map (evr E ts sh)++ys) sh K
    | _,_=>False
   | _=>False):OpOK E O o sh env a w K:=by
 have hf:=evr_rep h f
 split at hk
 ·rename_i g p q e
  rw [e] at hf
  obtain ⟨us,vs,hv,h1,h2⟩:=hf.inv_fn
  split at hk
  ·rename_i xs ys hx hy
   have hargs:=argsR_append (argsR_append (unL_args hx h1) (argsR_ev h c.args.toList)) (unL_args hy h2)
   have hm:=hTT g _ _ _ hk O env w _ hargs h.heap h.glob
   intro next Q hn
   unfold Oper.wp
   have hrun:(execOp a.eval o).run E.P w=(callFunc g ((us++c.args.toList.map a.eval++vs).toArray)).run E.P w:=by
    simp only [execOp,ho,resolve,hc,hv,Deferred.ofValue,Sem.run_bind,Sem.run_pure,Result.andThen_ok,Go.invoke]
    congr 2
    apply Array.toList_inj.1
    simp
   rw [hrun]
   exact hm o a next Q (fun v w' ⟨s,sh',env',h3,h4,h5,h7,h6⟩=>hn v s sh' env' w' h3 h4 h5 (fun hq=>by
    have hq':E.qf g=true:=by
     simp only [quietOp,ho,hc] at hq
     cases f<;>simp at hq
     simp only [evr,ev,rsl,SV.fn.injEq,Fn.func.injEq] at e
     rw [← e.1]; exact hq
    exact ⟨(h7 hq').1,(h7 hq').2⟩) h6)
  ·exact hk.elim
 ·exact hk.elim
theorem toList_one {α:Type} {x:Array α} {a:α} (h:x.toList=[a]):x=#[a]:=by
 apply Array.toList_inj.1; simpa using h
theorem toList_two {α:Type} {x:Array α} {a b:α} (h:x.toList=[a,b]):x=#[a,b]:=by
 apply Array.toList_inj.1; simpa using h
theorem map_one {α β:Type} {f:α→β} {l:List α} {b:β} (h:l.map f=[b]):∃ a,l=[a]∧f a=b:=by
 match l,h with
 | [a],h=>exact ⟨a,rfl,by simpa using h⟩
theorem map_two {α β:Type} {f:α→β} {l:List α} {b c:β} (h:l.map f=[b,c]):∃ a a',l=[a,a']∧f a=b∧f a'=c:=by
 match l,h with
 | [a,a'],h=>exact ⟨a,a',rfl,by simpa using h⟩
/-- Where a map's marks get names first. -/
theorem fresh_rel {m:SV A} {k:List (SO A)→Prop} (h:Rel E O ts sh env a w) (hk:freshM m sh k):∃ sh',Rel E O ts sh' env a w∧k sh':=by
 unfold freshM at hk
 split at hk
 ·rename_i i off
  split at hk
  ·rename_i kt vt es hi
   obtain ⟨st,h1,h2,h3⟩:=h.heap.names hi
   exact ⟨_,⟨h.defers,h.tsz,h.tmps,h3,h.glob⟩,hk st h1 h2⟩
  ·rename_i kt vt es st c hi
   obtain ⟨b,hb,hm⟩:=h.heap.rmap hi
   exact ⟨_,⟨h.defers,h.tsz,h.tmps,h.heap.say hb (show ORep O env w E.C (.smap kt vt es st) (.mb b) from hm.toR),h.glob⟩,hk⟩
  ·exact ⟨sh,h,hk⟩
 ·exact ⟨sh,h,hk⟩
theorem op_builtin {c:Call} {b:Builtin} (ho:o.op = .call c) (hc:c.callee = .builtin b) (h:Rel E O ts sh env a w)
  (hk:builtinS E b c.argTypes.toList (c.args.toList.map (evr E ts sh)) sh K):OpOK E O o sh env a w K:=by
 have hk':=hk
 unfold builtinS at hk
 split at hk
 ·rename_i t x hat har
  obtain ⟨y,hy,hyx⟩:=map_one har
  rw [hat,har,← hyx] at hk'
  by_cases hm:∃ k v,desc E.P t = .map k v
  ·obtain ⟨k,v,hm⟩:=hm
   exact op_lenM ho hc (toList_one hat) (toList_one hy) hm h hk'
  ·exact (op_len ho hc (toList_one hat) (toList_one hy) (fun k v e=>hm ⟨k,v,e⟩) h hk').ok h
 ·rename_i t u x y hat har
  obtain ⟨p,q,hpq,hp,hq⟩:=map_two har
  split at hk
  ·rename_i e
   subst e
   rw [← hp,← hq] at hk
   exact op_append ho hc (toList_two hat) (toList_two hpq) h hk
  ·rw [← hp,← hq] at hk
   exact op_appendZ ho hc (toList_two (b:=_) hat) (toList_two hpq) h hk
 ·rename_i t x hat har
  obtain ⟨y,hy,hyx⟩:=map_one har
  rw [hat,har,← hyx] at hk'
  exact op_cap ho hc (toList_one hat) (toList_one hy) h hk'
 ·rename_i t u x y hat har
  obtain ⟨p,q,hpq,hp,hq⟩:=map_two har
  rw [← hp,← hq] at hk
  exact op_copy ho hc (toList_two (b:=_) hat) (toList_two hpq) h hk
 ·rename_i x y har
  obtain ⟨p,q,hpq,hp,hq⟩:=map_two har
  rw [har,← hp,← hq] at hk'
  exact op_min ho hc (toList_two hpq) h hk'
 ·rename_i x y har
  obtain ⟨p,q,hpq,hp,hq⟩:=map_two har
  rw [har,← hp,← hq] at hk'
  exact op_max ho hc (toList_two hpq) h hk'
 ·rename_i t u x y hat har
  obtain ⟨p,q,hpq,hp,hq⟩:=map_two har
  rw [← hp,← hq] at hk
  obtain ⟨sh',h',hk'⟩:=fresh_rel h hk
  have r:=op_delete (sh:=sh') ho hc (toList_two (b:=_) hat) (toList_two hpq) (evr_rep h p) (evr_rep h q) h'.heap hk'
  exact r
 ·exact hk.elim
/-- Every operation that the engine knows. -/
theorem stepOp_sound (hTT:∀ g,Meets E.P E.C E.GL (E.qf g) g (E.TT g)) (h:Rel E O ts sh env a w) (hk:stepOp E o.op ts sh K):OpOK E O o sh env a w K:=by
 cases ho:o.op<;>rw [ho] at hk<;>try (exact hk.elim)
 case move x=>exact (op_move ho h hk).ok h
 case assign x=>exact (op_assign ho h hk).ok h
 case pick c x y=>exact (op_pick ho h hk).ok h
 case alloc t=>exact op_alloc ho h hk
 case box t x=>exact op_box ho h hk
 case build t ps=>exact op_build ho h hk
 case buildSlice t n ps=>exact op_buildSlice ho h hk
 case load t x=>exact op_load ho h hk
 case store t x y=>exact op_storeV ho h hk
 case sliceToArrayPointer t x=>exact (op_s2ap ho h hk).ok h
 case index t x y=>exact (op_index ho h hk).ok h
 case nilCheck x=>exact (op_nilCheck ho h hk).ok h
 case binOp op t x y t'=>exact (op_binOp ho h hk).ok h
 case unOp op t x=>exact (op_unOp ho h hk).ok h
 case convert s d x=>
  simp only [stepOp] at hk
  split at hk
  ·rename_i e
   subst e
   exact op_same ho h hk
  ·exact op_convertA ho h hk
 case makeInterface t x=>exact (op_makeInterface ho h hk).ok h
 case makeFunc f x y=>exact (op_makeFunc ho h hk).ok h
 case slice t x lo hi mx=>exact op_slice ho h hk
 case fieldAddr s x f=>exact (op_fieldAddr ho h hk).ok h
 case field s x f=>exact (op_field ho h hk).ok h
 case indexAddr t x y=>exact (op_indexAddr ho h hk).ok h
 case extract x i=>exact (op_extract ho h hk).ok h
 case makeMap t r=>exact op_makeMap ho h hk
 case lookup t m x ok=>
  simp only [stepOp] at hk
  obtain ⟨sh',h',hk'⟩:=fresh_rel h hk
  have r:=op_lookup ho h' hk'
  exact r
 case mapUpdate t m k x=>
  simp only [stepOp] at hk
  obtain ⟨sh',h',hk'⟩:=fresh_rel h hk
  have r:=op_mapUpdate (.inl ho) h' hk'
  exact r
 case insert t m k x=>
  simp only [stepOp] at hk
  obtain ⟨sh',h',hk'⟩:=fresh_rel h hk
  have r:=op_mapUpdate (.inr ho) h' hk'
  exact r
 case mapEntry t m k=>
  simp only [stepOp] at hk
  obtain ⟨sh',h',hk'⟩:=fresh_rel h hk
  have r:=op_mapEntry ho h' hk'
  exact r
 case entryStore t m s x=>
  simp only [stepOp] at hk
  obtain ⟨sh',h',hk'⟩:=fresh_rel h hk
  have r:=op_entryStore ho h' hk'
  exact r
 case range t x=>
  simp only [stepOp] at hk
  obtain ⟨sh',h',hk'⟩:=fresh_rel h hk
  have r:=op_range ho h' hk'
  exact r
 case next x text=>exact op_next ho h hk
 case entry x=>exact op_entry ho h hk
 case call c=>
  simp only [stepOp] at hk
  split at hk
  ·rename_i f hc
   exact op_callFn hTT ho hc h hk
  ·rename_i b hc
   exact op_builtin ho hc h hk
  ·exact hk.elim
/-- Truths of one name are one. -/
structure WF (ts:List (SV A)) (n:Nat):Prop where
 lt:∀ (t:Nat) i c,ts[t]?=some (.sb i c)→i<n
 one:∀ (t t':Nat) i c c',ts[t]?=some (.sb i c)→ts[t']?=some (.sb i c')→c=c'
theorem know_get (i:Nat) (b:Bool):∀ (l:List (SV A)) (t:Nat) (s:SV A),(know i b l)[t]?=some s→(l[t]?=some s∧∀ c,s ≠ .sb i c)∨∃ c,l[t]?=some (.sb i c)∧s = .bl b
 | [],t,s,h=>by simp [know] at h
 | x::l,0,s,h=>by
  cases x
  case sb j c=>
   simp only [know,List.getElem?_cons_zero,Option.some.injEq] at h ⊢
   split at h
   ·rename_i e; subst e; exact .inr ⟨c,rfl,h.symm⟩
   ·rename_i e
    subst h
    exact .inl ⟨rfl,fun c' e'=>by cases e'; exact e rfl⟩
  all_goals
   simp only [know,List.getElem?_cons_zero,Option.some.injEq] at h ⊢
   subst h
   exact .inl ⟨rfl,fun c' e'=>by cases e'⟩
 | x::l,t+1,s,h=>by
  have e:(know i b (x::l))[t+1]?=(know i b l)[t]?:=by cases x<;>simp [know]
  rw [e] at h
  simpa using know_get i b l t s h
theorem know_len (i:Nat) (b:Bool):∀ l:List (SV A),(know i b l).length=l.length
 | []=>rfl
 | s::l=>by cases s<;>simp [know,know_len i b l]
theorem WF.know {n:Nat} (h:WF ts n) (i:Nat) (b:Bool):WF (know i b ts) n where
 lt:=fun t j c ht=>by
  rcases know_get i b ts t _ ht with ⟨h1,_⟩ | ⟨c',_,h2⟩
  ·exact h.lt t j c h1
  ·cases h2
 one:=fun t t' j c c' h1 h2=>by
  rcases know_get i b ts t _ h1 with ⟨h3,_⟩ | ⟨_,_,h3⟩
  ·rcases know_get i b ts t' _ h2 with ⟨h4,_⟩ | ⟨_,_,h4⟩
   ·exact h.one t t' j c c' h3 h4
   ·cases h4
  ·cases h3
theorem rel_know {n:Nat} (hw:WF ts n) {t0 i:Nat} {b:Bool} (ht:ts[t0]?=some (.sb i b)) (h:Rel E O ts sh env a w):Rel E O (know i b ts) sh env a w:=by
 refine ⟨h.defers,by rw [know_len]; exact h.tsz,fun t s hs=>?_,h.heap,h.glob⟩
 rcases know_get i b ts t s hs with ⟨h1,_⟩ | ⟨c,h1,rfl⟩
 ·exact h.tmps t s h1
 ·obtain ⟨v,hv,hr⟩:=h.tmps t _ h1
  have:=hw.one t t0 i c b h1 ht
  subst this
  exact ⟨v,hv,by rw [hr.inv_sb]; exact .bl⟩
theorem get_setDst {d:Option Tmp} {v s:SV A} {t:Nat} (h:(setDst ts d v)[t]?=some s):(d=some t∧s=v)∨(d≠some t∧ts[t]?=some s):=by
 cases d with
 | none=>exact .inr ⟨by simp,h⟩
 | some d=>
  simp only [setDst,setNth_eq] at h
  by_cases e:d=t
  ·subst e
   have hl:d<ts.length:=by have:=(List.getElem?_eq_some_iff.1 h).1; simpa using this
   rw [List.getElem?_set_self hl] at h
   cases h; exact .inl ⟨rfl,rfl⟩
  ·rw [List.getElem?_set_ne e] at h
   exact .inr ⟨by simpa using e,h⟩
theorem WF.put_new {n:Nat} (h:WF ts n) (d:Option Tmp) (v:SV A):WF (setDst ts d (named n v)) (n+1) where
 lt:=fun t i c ht=>by
  rcases get_setDst ht with ⟨_,h1⟩ | ⟨_,h1⟩
  ·unfold named at h1
   split at h1
   ·cases h1; omega
   ·rename_i hn; exact absurd h1.symm (hn i c)
  ·have:=h.lt t i c h1; omega
 one:=fun t t' i c c' h1 h2=>by
  have key:∀ i c,SV.sb i c=named n v→i=n:=by
   intro i c e
   unfold named at e
   split at e
   ·cases e; rfl
   ·rename_i hn; exact absurd e.symm (hn i c)
  rcases get_setDst h1 with ⟨_,h3⟩ | ⟨_,h3⟩<;>rcases get_setDst h2 with ⟨_,h4⟩ | ⟨_,h4⟩
  ·have e:=h3.trans h4.symm
   cases e; rfl
  ·have:=key i c h3; have:=h.lt t' i c' h4; omega
  ·have:=key i c' h4; have:=h.lt t i c h3; omega
  ·exact h.one t t' i c c' h3 h4
theorem WF.put_old {n:Nat} (h:WF ts n) (d:Option Tmp) (v:SV A) (hv:(∃ t:Nat,ts[t]?=some v)∨∀ i c,v ≠ .sb i c):WF (setDst ts d v) n where
 lt:=fun t i c ht=>by
  rcases get_setDst ht with ⟨_,h1⟩ | ⟨_,h1⟩
  ·rcases hv with ⟨t',h2⟩ | h2
   ·rw [← h1] at h2; exact h.lt t' i c h2
   ·exact absurd h1.symm (h2 i c)
  ·exact h.lt t i c h1
 one:=fun t t' i c c' h1 h2=>by
  have key:∀ i c,SV.sb i c=v→∃ t:Nat,ts[t]?=some (.sb i c):=by
   intro i c e
   rcases hv with ⟨t',h2⟩ | h2
   ·exact ⟨t',by rw [e]; exact h2⟩
   ·exact absurd e.symm (h2 i c)
  rcases get_setDst h1 with ⟨_,h3⟩ | ⟨_,h3⟩<;>rcases get_setDst h2 with ⟨_,h4⟩ | ⟨_,h4⟩
  ·obtain ⟨p,hp⟩:=key i c h3
   obtain ⟨q,hq⟩:=key i c' h4
   exact h.one p q i c c' hp hq
  ·obtain ⟨p,hp⟩:=key i c h3
   exact h.one p t' i c c' hp h4
  ·obtain ⟨q,hq⟩:=key i c' h4
   exact h.one t q i c c' h3 hq
  ·exact h.one t t' i c c' h3 h4
theorem ev_old (x:Operand):(∃ t:Nat,ts[t]?=some (ev E ts x))∨∀ i c,ev E ts x ≠ .sb i c:=by
 cases x with
 | tmp t=>
  simp only [ev,nth_eq]
  cases hs:ts[t]? with
  | none=>exact .inr (fun i c e=>by cases e)
  | some s=>exact .inl ⟨t,hs⟩
 | const v=>right; intro i c e; cases v<;>simp [ev,ofConst] at e
 | global g=>
  right; intro i c e
  simp only [ev] at e
  split at e<;>cases e
 | func f=>right; intro i c e; cases e
/-- One operation of a region, its guard met. -/
theorem runOp_sound (hTT:∀ g,Meets E.P E.C E.GL (E.qf g) g (E.TT g)) {n:Nat} (hw:WF ts n) (h:Rel E O ts sh env a w) {K:List (SV A)→List (SO A)→Nat→Prop} (hk:runOp E o ts sh n K)
  {next:Act→World→Prop} {Q:Exit→Act→World→Prop}
  (hn:∀ ts' sh' n' env' v w',WF ts' n'→Rel E O ts' sh' env' (a.put o.dst v) w'→Step env w env' w'→(quietOp E o.op=true→Old w w')→K ts' sh' n'→next (a.put o.dst v) w'):o.wp E.P a w next Q:=by
 unfold runOp at hk
 split at hk
 ·rename_i x ho
  have:=(op_move (K:=fun s sh'=>s=ev E ts x∧sh'=sh) ho h ⟨rfl,rfl⟩).ok h
  refine this next Q (fun v s sh' env' w' hr hh hs hold ⟨h1,h2⟩=>?_)
  subst h1; subst h2
  exact hn _ _ _ _ _ _ (hw.put_old o.dst _ (ev_old x)) (rel_put h hs hh hr o.dst) hs hold hk
 ·rename_i x ho
  have:=(op_assign (K:=fun s sh'=>s=ev E ts x∧sh'=sh) ho h ⟨rfl,rfl⟩).ok h
  refine this next Q (fun v s sh' env' w' hr hh hs hold ⟨h1,h2⟩=>?_)
  subst h1; subst h2
  exact hn _ _ _ _ _ _ (hw.put_old o.dst _ (ev_old x)) (rel_put h hs hh hr o.dst) hs hold hk
 ·have:=stepOp_sound hTT h hk
  refine this next Q (fun v s sh' env' w' hr hh hs hold hK=>?_)
  exact hn _ _ _ _ _ _ (hw.put_new o.dst s) (rel_put h hs hh (rep_named n hr) o.dst) hs hold hK
theorem rel_undef (h:Rel E O ts sh env a w) (d:Option Tmp):Rel E O (setDst ts d .undef) sh env (a.put d Go.undef) w:=
 rel_put h (Step.refl _ _) h.heap .undef d
/-- An operation as it comes up: wanted, or passed over. -/
theorem guard_cases {n:Nat} (hw:WF ts n) (h:Rel E O ts sh env a w) {ops:Array Oper} {K:List (SV A)→List (SO A)→Nat→Prop} (hk:guarded E ops.toList o ts sh n K) :
  (Region.wanted o (yielded ops a.tmps)=true∧∃ ts',WF ts' n∧Rel E O ts' sh env a w∧runOp E o ts' sh n K) ∨
  (Region.wanted o (yielded ops a.tmps)=false∧∃ ts',WF ts' n∧Rel E O ts' sh env a w∧K (setDst ts' o.dst .undef) sh n):=by
 unfold guarded at hk
 split at hk
 ·rename_i hg
  exact .inl ⟨by simp [Region.wanted,hg],ts,hw,h,hk⟩
 ·rename_i j want hg
  have hyield:∀ s,guardOf ops.toList ts j=s→s ≠ .junk→∃ (d:Nat) (v:Value),ts[d]?=some s∧Rep O env w E.C s v∧yielded ops a.tmps j=(match v with | .bool b=>some b | _=>none):=by
   intro s hs hne
   unfold guardOf at hs
   rw [nth_eq,Array.getElem?_toList] at hs
   cases ho:ops[j]? with
   | none=>rw [ho] at hs; exact absurd hs.symm hne
   | some oj=>
    rw [ho] at hs
    simp only at hs
    cases hd:oj.dst with
    | none=>rw [hd] at hs; exact absurd hs.symm hne
    | some d=>
     rw [hd] at hs
     simp only [nth_eq] at hs
     cases ht:ts[d]? with
     | none=>rw [ht] at hs; exact absurd hs.symm hne
     | some s'=>
      rw [ht] at hs
      simp only at hs
      subst hs
      obtain ⟨v,hv,hr⟩:=h.tmps d _ ht
      refine ⟨d,v,ht,hr,?_⟩
      simp only [yielded,ho,Option.bind_some,hd,hv]
      cases v<;>rfl
  split at hk
  ·rename_i hs
   obtain ⟨d,v,_,hr,hy⟩:=hyield _ hs (by simp)
   rw [hr.inv_undef] at hy
   exact .inr ⟨by simp [Region.wanted,hg,hy,Go.undef],ts,hw,h,hk⟩
  ·rename_i b hs
   obtain ⟨d,v,_,hr,hy⟩:=hyield _ hs (by simp)
   rw [hr.inv_bl] at hy
   split at hk
   ·rename_i e
    subst e
    exact .inl ⟨by simp [Region.wanted,hg,hy],ts,hw,h,hk⟩
   ·rename_i e
    exact .inr ⟨by simp [Region.wanted,hg,hy,e],ts,hw,h,hk⟩
  ·rename_i i b hs
   obtain ⟨d,v,hd,hr,hy⟩:=hyield _ hs (by simp)
   rw [hr.inv_sb] at hy
   cases b with
   | true=>
    have hw':=hw.know i true
    have h':=rel_know hw hd h
    have hk:=hk.1 rfl
    cases want
    ·exact .inr ⟨by simp [Region.wanted,hg,hy],_,hw',h',hk⟩
    ·exact .inl ⟨by simp [Region.wanted,hg,hy],_,hw',h',hk⟩
   | false=>
    have hw':=hw.know i false
    have h':=rel_know hw hd h
    have hk:=hk.2 rfl
    cases want
    ·exact .inl ⟨by simp [Region.wanted,hg,hy],_,hw',h',hk⟩
    ·exact .inr ⟨by simp [Region.wanted,hg,hy],_,hw',h',hk⟩
  ·exact hk.elim
theorem WF.undef {n:Nat} (hw:WF ts n) (d:Option Tmp):WF (setDst ts d (.undef:SV A)) n:=hw.put_old d _ (.inr fun i c e=>by cases e)
theorem guarded_sound (hTT:∀ g,Meets E.P E.C E.GL (E.qf g) g (E.TT g)) {n:Nat} (hw:WF ts n) (h:Rel E O ts sh env a w) {ops:Array Oper} {K:List (SV A)→List (SO A)→Nat→Prop} (hk:guarded E ops.toList o ts sh n K)
  {next:Act→World→Prop} {Q:Exit→Act→World→Prop}
  (hn:∀ ts' sh' n' env' v w',WF ts' n'→Rel E O ts' sh' env' (a.put o.dst v) w'→Step env w env' w'→(quietOp E o.op=true→Old w w')→K ts' sh' n'→next (a.put o.dst v) w') :
  if Region.wanted o (yielded ops a.tmps) then o.wp E.P a w next Q else next (a.put o.dst Go.undef) w:=by
 rcases guard_cases hw h hk with ⟨h1,ts',h2,h3,h4⟩ | ⟨h1,ts',h2,h3,h4⟩
 ·rw [if_pos h1]
  exact runOp_sound hTT h2 h3 h4 hn
 ·rw [h1]
  exact hn _ _ _ _ _ _ (h2.undef o.dst) (rel_undef h3 o.dst) (Step.refl _ _) (fun _=>Old.refl _) h4
/-- Two frames are the same but in some slots. -/
structure Same (W:List Nat) (a a':Act):Prop where
 size:a'.tmps.size=a.tmps.size
 get:∀ t,t∉W→a'.tmps[t]?=a.tmps[t]?
theorem Same.refl (W:List Nat) (a:Act):Same W a a:=⟨rfl,fun _ _=>rfl⟩
theorem Same.trans {W:List Nat} {a b c:Act} (h:Same W a b) (k:Same W b c):Same W a c:=⟨k.size.trans h.size,fun t ht=>(k.get t ht).trans (h.get t ht)⟩
theorem Same.mono {W W':List Nat} {a b:Act} (h:Same W a b) (hs:∀ t,t∈W→t∈W'):Same W' a b:=⟨h.size,fun t ht=>h.get t (fun h1=>ht (hs t h1))⟩
theorem Same.put (a:Act) (d:Option Tmp) (v:Value) {W:List Nat} (hd:∀ t,d=some t→t∈W):Same W a (a.put d v):=by
 refine ⟨by cases d<;>simp [Act.put],fun t ht=>?_⟩
 cases d with
 | none=>rfl
 | some d=>
  have:d≠t:=fun e=>ht (e▸hd d rfl)
  simp only [Act.put]
  rw [Array.getElem?_setIfInBounds_ne this]
theorem dsts_mem:∀ {l:List Oper} {o:Oper} {t:Nat},o∈l→o.dst=some t→t∈dsts l
 | [],_,_,h,_=>by cases h
 | x::l,o,t,h,ht=>by
  rcases List.mem_cons.1 h with e | h
  ·subst e; simp [dsts,ht]
  ·have:=dsts_mem h ht
   simp only [dsts]
   split
   ·exact List.mem_cons_of_mem _ this
   ·exact this
/-- A region in the order of the text. -/
theorem opsS_sound (hTT:∀ g,Meets E.P E.C E.GL (E.qf g) g (E.TT g)) {ops:Array Oper} {Q:Exit→Act→World→Prop} {W:List Nat}:∀ {l:List Oper} {ts:List (SV A)} {sh:List (SO A)} {n:Nat} {env:List Wit} {a:Act} {w:World} {K:List (SV A)→List (SO A)→Nat→Prop},
  (∀ o∈l,∀ t,o.dst=some t→t∈W)→WF ts n→Rel E O ts sh env a w→opsS E ops.toList l ts sh n K→(∀ ts' sh' n' env' a' w',WF ts' n'→Rel E O ts' sh' env' a' w'→Step env w env' w'→Same W a a'→K ts' sh' n'→Q .normal a' w')→wpList E.P ops Q l a w
 | [],ts,sh,n,env,a,w,K,_,hw,h,hk,hq=>hq _ _ _ _ _ _ hw h (Step.refl _ _) (Same.refl _ _) hk
 | o::l,ts,sh,n,env,a,w,K,hW,hw,h,hk,hq=>by
  have:=guarded_sound (next:=wpList E.P ops Q l) (Q:=Q) hTT hw h hk (fun ts' sh' n' env' v w' hw' h' hs _ hk'=>
   opsS_sound hTT (fun o ho=>hW o (List.mem_cons_of_mem _ ho)) hw' h' (go_eq.1 hk') (fun ts2 sh2 n2 env2 a2 w2 hw2 h2 hs2 hsm hk2=>hq _ _ _ _ _ _ hw2 h2 (hs.trans hs2) ((Same.put a o.dst v (hW o List.mem_cons_self)).trans hsm) hk2))
  unfold wpList
  split
  ·rename_i hwnt; rw [if_pos hwnt] at this; exact .inl this
  ·rename_i hwnt; rw [if_neg hwnt] at this; exact this
end
end Go.Eng

/-! The engine is right: what an operation leaves alone; what lies aside. Conditions: none. -/
namespace Go.Eng
open Go
variable {A:Nat→Type}
/-- All blocks ahead of this one are as they were. -/
structure OldB (b:Nat) (w w':World):Prop where
 size:w.heap.size≤w'.heap.size
 same:∀ k,k<b→w'.heap[k]?=w.heap[k]?
theorem OldB.refl (b:Nat) (w:World):OldB b w w:=⟨Nat.le_refl _,fun _ _=>rfl⟩
theorem OldB.trans {b:Nat} {x y z:World} (h:OldB b x y) (k:OldB b y z):OldB b x z:=⟨Nat.le_trans h.size k.size,fun i hi=>(k.same i hi).trans (h.same i hi)⟩
theorem Old.upTo {b:Nat} {w w':World} (h:Old w w') (hb:b≤w.heap.size):OldB b w w':=⟨h.size,fun k hk=>h.same k (by omega)⟩
theorem OldB.old {w w':World} (h:OldB w.heap.size w w'):Old w w':=⟨h.size,h.same⟩
theorem wp_frame {P:Program} {o:Oper} {a:Act} {w:World} {next:Act→World→Prop} {Q:Exit→Act→World→Prop} {F:World→Prop}
  (hr:∀ r w',(execOp a.eval o).run P w = .ok r w'→((∃ v,r = .value v)∨r = .skip)∧F w') (h:o.wp P a w next Q):o.wp P a w (fun a' w'=>next a' w'∧F w') Q:=by
 unfold Oper.wp at *
 cases hres:(execOp a.eval o).run P w with
 | ok r w'=>
  rw [hres] at h
  obtain ⟨h1,h2⟩:=hr r w' hres
  rcases h1 with ⟨v,rfl⟩ | rfl
  ·exact ⟨h,h2⟩
  ·exact ⟨h,h2⟩
 | halt x w'=>
  rw [hres] at h
  cases x<;>exact h
theorem andThen_ok_inv {α β:Type} {x:Result α} {f:α→World→Result β} {r:β} {w':World} (h:x.andThen f = .ok r w'):∃ y w1,x = .ok y w1∧f y w1 = .ok r w':=by
 cases x with
 | ok y w1=>exact ⟨y,w1,rfl,h⟩
 | halt z w1=>cases h
/-- A store's cell is all that it changes. -/
theorem store_frame {P:Program} {w:World} {b o:Nat} {v:Value} {cur:Array Value} {e:TypeId} {fr:Nat×Nat} (hb:w.heap[b]?=some (.cells cur e fr)) {r:Unit} {w':World} (h:(store ⟨b,o,none⟩ v).run P w = .ok r w') :
  w'.heap.size=w.heap.size∧(∀ k,k≠b→w'.heap[k]?=w.heap[k]?)∧∃ cur',w'.heap[b]?=some (.cells cur' e fr):=by
 by_cases hv:v.oneCell'=true
 ·rw [run_store P w _ v _ hv] at h
  split at h
  ·split at h
   ·cases h
   ·cases h
    refine ⟨World.size_setCell _ _ _,fun k hk=>heap_setCell_other w _ k v hk,?_⟩
    simp only [World.setCell,Array.getElem?_modify,hb,Option.map_some]
    exact ⟨_,rfl⟩
  ·have : w.farStore P ⟨b, o, none⟩ v (Mode.plain == .atomic) = .error (w.noCell ⟨b, o, none⟩ "store: no such cell") := by
    simp only [World.farStore,hb]
   rw [this] at h
   cases h
 ·exfalso
  cases v<;>simp [Value.oneCell'] at hv<;>simp [store,Sem.run] at h
theorem storeCells_frame {P:Program} {b o:Nat} {e:TypeId} {fr:Nat×Nat}:∀ (vs:List Value) (i:Nat) (w:World) (cur:Array Value),w.heap[b]?=some (.cells cur e fr)→∀ {r:Unit} {w':World},(storeCells ⟨b,o,none⟩ vs i).run P w = .ok r w' →
  w'.heap.size=w.heap.size∧∀ k,k≠b→w'.heap[k]?=w.heap[k]?
 | [],i,w,cur,hb,r,w',h=>by
  simp only [storeCells,Sem.run_pure,Result.ok.injEq] at h
  rw [← h.2]
  exact ⟨rfl,fun _ _=>rfl⟩
 | v::vs,i,w,cur,hb,r,w',h=>by
  simp only [storeCells,Sem.run_bind,Addr.add_lit] at h
  obtain ⟨y,w1,h1,h2⟩:=andThen_ok_inv h
  obtain ⟨h3,h4,cur',h5⟩:=store_frame hb h1
  obtain ⟨h6,h7⟩:=storeCells_frame vs (i+1) w1 cur' h5 h2
  exact ⟨h6.trans h3,fun k hk=>(h7 k hk).trans (h4 k hk)⟩
theorem storeVar_frame {P:Program} {t:TypeId} {b o:Nat} {v:Value} {e:TypeId} {fr:Nat×Nat} {cur:Array Value} {w:World} (hb:w.heap[b]?=some (.cells cur e fr)) {r:Unit} {w':World} (h:(storeVar t ⟨b,o,none⟩ v).run P w = .ok r w') :
  w'.heap.size=w.heap.size∧∀ k,k≠b→w'.heap[k]?=w.heap[k]?:=by
 simp only [storeVar,Sem.run_bind] at h
 obtain ⟨n,w1,h1,h2⟩:=andThen_ok_inv h
 have hw:w1=w:=by
  unfold sizeOf typeInfo at h1
  cases hi:P.info? t<;>simp [hi] at h1
  exact h1.2.symm
 subst hw
 split at h2
 ·simp at h2
 ·exact storeCells_frame _ _ _ _ hb h2
section
variable {E:Eng A} {O:Nat→Prop} {ts:List (SV A)} {sh:List (SO A)} {env:List Wit} {a:Act} {w:World} {o:Oper} {K:Pred A}
theorem storeV_cells {t:TypeId} {x:Operand} {y:SV A} {K':List (SO A)→Prop} (h:Rel E O ts sh env a w) (hk:storeV E t (evr E ts sh x) y sh K') :
  ∃ b o cur e fr,a.eval x = .pointer (some ⟨b,o,none⟩)∧w.heap[b]?=some (.cells cur e fr):=by
 have hx:=evr_rep h x
 generalize evr E ts sh x=sx at hx hk
 generalize a.eval x=vx at hx ⊢
 have hS:storeS E t sx y sh K'→∃ b o cur e fr,vx = .pointer (some ⟨b,o,none⟩)∧w.heap[b]?=some (.cells cur e fr):=by
  intro hk
  unfold storeS at hk
  split at hk
  ·rename_i i off _
   split at hk
   ·rename_i e cs hi
    obtain ⟨b,vs,hb,hc,_⟩:=h.heap.cells hi
    have h1:=hx.inv_ptr
    simp only [refAt,hb] at h1
    exact ⟨b,off,_,_,_,h1,hc⟩
   ·exact hk.elim
  ·rename_i i off m j
   split at hk
   ·rename_i e cs hi
    obtain ⟨b,vs,hb,hc,_⟩:=h.heap.cells hi
    obtain ⟨h1,_⟩:=blkAt_some hx.inv_aptr hb
    exact ⟨b,_,_,_,_,h1,hc⟩
   ·exact hk.elim
  ·rename_i i j size off
   split at hk
   ·rename_i e k xs hi
    obtain ⟨v0,hb,hown⟩:=h.heap.ivec hi
    obtain ⟨b,n,c,hv1,hv2⟩:=slAt_some hx.inv_vptr hb
    subst hv1
    rcases hown.2 with ⟨hc,_⟩ | ⟨g,cap,cur,hg1,_,hg3,_⟩
    ·cases hc
    ·simp only [Value.slice.injEq,Option.some.injEq,Addr.mk.injEq,and_true] at hg1
     obtain ⟨rfl,_,_⟩:=hg1
     exact ⟨b,_,_,_,_,hv2,hg3⟩
   ·exact hk.elim
  ·exact hk.elim
 unfold storeV at hk
 split at hk
 ·rename_i i j size off
  split at hk
  ·rename_i hi
   obtain ⟨v0,vs,hb,hown,_⟩:=h.heap.svec hi
   obtain ⟨b,n,c,hv1,hv2⟩:=slAt_some hx.inv_vptr hb
   subst hv1
   rcases hown.2 with ⟨hc,_⟩ | ⟨g,cap,cur,hg1,_,hg3,_⟩
   ·cases hc
   ·simp only [Value.slice.injEq,Option.some.injEq,Addr.mk.injEq,and_true] at hg1
    obtain ⟨rfl,_,_⟩:=hg1
    exact ⟨b,_,_,_,_,hv2,hg3⟩
  ·exact hS hk
 ·exact hS hk
/-- A store changes one block. -/
theorem stored_run {t:TypeId} {x y:Operand} {ad:Addr} (ho:o.op = .store t x y) (hx:a.eval x = .pointer (some ad)) (h:Rel E O ts sh env a w) (hk:stepOp E o.op ts sh K) {r:Next} {w':World} (hr:(execOp a.eval o).run E.P w = .ok r w') :
  ((∃ v,r = .value v)∨r = .skip)∧∀ b,b≤ad.block→OldB b w w':=by
 rw [ho] at hk
 obtain ⟨b,off,cur,e,fr,hv,hb⟩:=storeV_cells h hk
 rw [hx] at hv
 cases hv
 simp only [execOp,ho,hx,Instr.storeAt,Instr.sureAddr] at hr
 simp only [Sem.run_bind,Sem.run_pure,Result.andThen_ok] at hr
 obtain ⟨u,w1,h1,h2⟩:=andThen_ok_inv hr
 cases h2
 obtain ⟨h3,h4⟩:=storeVar_frame hb h1
 exact ⟨.inr rfl,fun k hk=>⟨by omega,fun j hj=>h4 j (by simp at hk; omega)⟩⟩
/-- An append to nothing leaves all that was. -/
theorem nilapp_run {c:Call} {x:Operand} {l:List Operand} (ho:o.op = .call c) (hc:c.callee = .builtin .append) (har:c.args.toList=x::l) (hx:a.eval x = .slice none 0 0) (h:Rel E O ts sh env a w) (hk:stepOp E o.op ts sh K) :
  ∃ v w',(execOp a.eval o).run E.P w = .ok (.value v) w'∧Old w w':=by
 rw [ho] at hk
 simp only [stepOp,hc] at hk
 unfold builtinS at hk
 split at hk
 all_goals first
  | contradiction
  | skip
 ·rename_i t u s s' hat hm
  obtain ⟨p,q,hpq,hp,hq⟩:=map_two hm
  have e1:p=x:=by rw [hpq] at har; cases har; rfl
  subst e1
  rw [← hp,← hq] at hk
  split at hk
  ·rename_i e
   subst e
   obtain ⟨v,w',_,_,_,hrun,_,_,_,hg,_⟩:=run_appendS o.type h hk
   refine ⟨v,w',callee_builtin hc ho (f:=Builtin.append_) (fun _ _ _ _=>rfl) (by rw [toList_two hat,toList_two hpq]; simp only [List.map_toArray,List.map_cons,List.map_nil]; exact hrun),hg.size,fun b hb=>hg.block b hb ?_⟩
   rw [hx]; simp [Value.ownBlock]
  ·obtain ⟨v,w',_,_,_,hrun,_,_,_,hg,_⟩:=run_appendZS o.type h hk
   refine ⟨v,w',callee_builtin hc ho (f:=Builtin.append_) (fun _ _ _ _=>rfl) (by rw [toList_two hat,toList_two hpq]; simp only [List.map_toArray,List.map_cons,List.map_nil]; exact hrun),hg.size,fun b hb=>hg.block b hb (by simp)⟩
end
end Go.Eng

/-! The engine is right: memory that lies aside, and is taken in. Conditions: none. -/
namespace Go.Eng
open Go
variable {A:Nat→Type}
/-- What is read alone stays so, and as it was. -/
structure Move (O O':Nat→Prop) (env env':List Wit) (w w':World):Prop where
 keep:∀ (i:Nat) x,env[i]?=some x→∃ y,env'[i]?=some y∧x.le y
 size:w.heap.size≤w'.heap.size
 free:∀ b,b<w.heap.size→¬O b→¬owned env b→¬O' b∧¬owned env' b∧w'.heap[b]?=w.heap[b]?
section
variable {O O':Nat→Prop} {env env':List Wit} {w w':World} {C:Enc A}
theorem ROat.move (m:Move O O' env env' w w') {a:Option Addr} {vs:List Value} (h:ROat O env w a vs):ROat O' env' w' a vs:=by
 rcases h with h | ⟨b,o,ha,hO,he,hc⟩
 ·exact .inl h
 ·cases vs with
  | nil=>exact .inl rfl
  | cons u us=>
   have hb:b<w.heap.size:=cell_lt (hc 0 u rfl)
   obtain ⟨h1,h2,h3⟩:=m.free b hb hO he
   refine .inr ⟨b,o,ha,h1,h2,fun j x hx=>?_⟩
   have h1:=hc j x hx
   simp only [World.cell?,h3] at h1 ⊢
   exact h1
mutual
theorem Rep.move (m:Move O O' env env' w w'):∀ {s:SV A} {v:Value},Rep O env w C s v→Rep O' env' w' C s v
 | _,_,.junk => .junk
 | _,_,.undef => .undef
 | _,_,.val => .val
 | _,_,.int => .int
 | _,_,.lit => .lit
 | _,_,.bl => .bl
 | _,_,.sb => .sb
 | _,_,.ptr h => .ptr (h.le (m.keep _))
 | _,_,.aptr h => .aptr (h.le (m.keep _))
 | _,_,.asl h => .asl (h.le (m.keep _))
 | _,_,.rptr b o vs hO he hb hc h => .rptr b o vs (m.free b hb hO he).1 (m.free b hb hO he).2.1 (Nat.lt_of_lt_of_le hb m.size)
   (fun j u hu=>by
    have h1:=hc j u hu
    have h2:=(m.free b hb hO he).2.2
    simp only [World.cell?,h2] at h1 ⊢
    exact h1) (RepL.move m h)
 | _,_,.rints a c h1 h2 h => .rints a c h1 h2 (h.move m)
 | _,_,.rseq a c vs h1 h2 h3 h hx => .rseq a c vs h1 h2 h3 (h.move m) (fun j x hj=>RepL.move m (hx j x hj))
 | _,_,.rful a vs h2 h3 h hx => .rful a vs h2 h3 (h.move m) (fun j x hj=>RepL.move m (hx j x hj))
 | _,_,.vec h => .vec (h.le (m.keep _))
 | _,_,.vptr h => .vptr (h.le (m.keep _))
 | _,_,.iface h => .iface (Rep.move m h)
 | _,_,.err h => .err h
 | _,_,.fn us vs ha hb => .fn us vs (RepL.move m ha) (RepL.move m hb)
 | _,_,.agg vs h => .agg vs (RepL.move m h)
 | _,_,.tup vs h => .tup vs (RepL.move m h)
theorem RepL.move (m:Move O O' env env' w w'):∀ {cs:SL A} {vs:List Value},RepL O env w C cs vs→RepL O' env' w' C cs vs
 | _,_,.nil => .nil
 | _,_,.cell h hr => .cell (Rep.move m h) (RepL.move m hr)
 | _,_,.run hn hr => .run hn (RepL.move m hr)
end
theorem ORep.move (m:Move O O' env env' w w') {so:SO A} {x:Wit} (hk:∀ b,x.owns b→w'.heap[b]?=w.heap[b]?) (h:ORep O env w C so x):ORep O' env' w' C so x:=by
 cases so with
 | dead=>exact h
 | cells e cs=>
  cases x with
  | blk b=>
   obtain ⟨vs,h1,h2⟩:=h
   exact ⟨vs,(hk b rfl).trans h1,h2.move m⟩
  | dead=>exact h
  | sl v=>exact h
  | ro v=>exact h
  | mb b=>exact h
 | smap kt vt es st=>
  cases x with
  | mb b=>exact MapR.imp h (hk b rfl) (fun _ _ _ h=>h.move m)
  | dead=>exact h
  | sl v=>exact h
  | ro v=>exact h
  | blk b=>exact h
 | amap kt vt es=>
  cases x with
  | mb b=>obtain ⟨st,h⟩:=h; exact ⟨st,MapR.imp h (hk b rfl) (fun _ _ _ h=>h.move m)⟩
  | dead=>exact h
  | sl v=>exact h
  | ro v=>exact h
  | blk b=>exact h
 | rmap kt vt es st c=>
  cases x with
  | mb b=>exact MapRC.imp h (hk b rfl) (fun _ _ _ h=>h.move m)
  | dead=>exact h
  | sl v=>exact h
  | ro v=>exact h
  | blk b=>exact h
 | miter s0 s a c=>
  cases x with
  | blk b=>obtain ⟨bm,sn,h1,h2,h3⟩:=h; exact ⟨bm,sn,(hk b rfl).trans h1,h2,h3.move m⟩
  | dead=>exact h
  | sl v=>exact h
  | ro v=>exact h
  | mb b=>exact h
 | fr s=>
  cases x with
  | ro v=>exact Rep.move m h
  | dead=>exact h
  | sl v=>exact h
  | blk b=>exact h
  | mb b=>exact h
 | ivec e k xs=>
  cases x with
  | sl v=>
   refine ⟨h.1,?_⟩
   rcases h.2 with h2 | ⟨g,cap,cur,h2,h3,h4,h5⟩
   ·exact .inl h2
   ·exact .inr ⟨g,cap,cur,h2,h3,(hk g (by simp [Wit.owns,h2,Value.ownBlock])).trans h4,h5⟩
  | dead=>exact h
  | ro v=>exact h
  | blk b=>exact h
  | mb b=>exact h
 | svec e xs=>
  cases x with
  | mb b=>exact h
  | ro v=>exact h
  | sl v=>
   obtain ⟨vs,h,hx⟩:=h
   refine ⟨vs,⟨h.1,?_⟩,fun j x hj=>(hx j x hj).move m⟩
   rcases h.2 with h2 | ⟨g,cap,cur,h2,h3,h4,h5⟩
   ·exact .inl h2
   ·exact .inr ⟨g,cap,cur,h2,h3,(hk g (by simp [Wit.owns,h2,Value.ownBlock])).trans h4,h5⟩
  | dead=>exact h
  | blk b=>exact h
end
section
variable {E:Eng A} {O O':Nat→Prop} {ts:List (SV A)} {sh:List (SO A)} {env:List Wit} {a:Act} {w:World}
/-- A new block, of which nobody here knows. -/
theorem Rel.aside (h:Rel E O ts sh env a w) {d:Nat} (hd:ts[d]?=some .junk) (v:Value) (ob:Obj) :
  Rel E (fun b=>O b∨b=w.heap.size) ts sh env (a.put (some d) v) (w.alloc ob):=by
 have hsz:(w.alloc ob).heap.size=w.heap.size+1:=by simp
 have m:Move O (fun b=>O b∨b=w.heap.size) env env w (w.alloc ob):=
  ⟨fun _ x hx=>⟨x,hx,.refl x⟩,by rw [hsz]; omega,fun b hb h1 h2=>⟨fun h3=>h3.elim h1 (fun e=>by omega),h2,heap_alloc_old w ob hb⟩⟩
 refine ⟨h.defers,by simp [Act.put,h.tsz],fun t s ht=>?_,⟨h.heap.len,fun i so x h1 h2=>(h.heap.rep i so x h1 h2).move m (fun b hb=>heap_alloc_old w ob (h.heap.lt b ⟨i,x,h2,hb⟩)),h.heap.disj,fun b hb h1=>?_,fun b hb=>?_,fun b hb=>?_⟩,fun g cs hg=>(h.glob g cs hg).move m⟩
 ·by_cases e:d=t
  ·subst e
   rw [hd] at ht
   cases ht
   have hl:d<a.tmps.size:=by rw [h.tsz]; exact (List.getElem?_eq_some_iff.1 hd).1
   exact ⟨v,by simp only [Act.put]; rw [Array.getElem?_setIfInBounds_self_of_lt hl],.junk⟩
  ·obtain ⟨u,h1,h2⟩:=h.tmps t s ht
   exact ⟨u,by simp only [Act.put]; rw [Array.getElem?_setIfInBounds_ne e]; exact h1,h2.move m⟩
 ·have:=h.heap.lt b hb
  rcases h1 with h1 | h1
  ·exact h.heap.out b hb h1
  ·omega
 ·rw [hsz]; have:=h.heap.lt b hb; omega
 ·rw [hsz]
  rcases hb with hb | hb
  ·have:=h.heap.olt b hb; omega
  ·omega
/-- It is taken in. -/
theorem Rel.take (h:Rel E O ts sh env a w) {g:Nat} (hO:∀ b,O b↔O' b∨b=g) (hg:¬O' g) {t:TypeId} {cs:SL A} {vs:Array Value} (hb:w.heap[g]?=some (.cells vs t (0,0))) (hr:∀ O env,RepL O env w E.C cs vs.toList)
  {d:Nat} (hd:a.tmps[d]?=some (.pointer (some ⟨g,0,none⟩))):Rel E O' (setDst ts (some d) (.ptr (cnt sh) 0)) (snoc sh (.cells t cs)) (env++[.blk g]) a w:=by
 have hgl:g<w.heap.size:=h.heap.olt g ((hO g).2 (.inr rfl))
 have hgo:¬owned env g:=fun h1=>h.heap.out g h1 ((hO g).2 (.inr rfl))
 have m:Move O O' env (env++[.blk g]) w w:=
  ⟨fun i x hi=>⟨x,by rw [List.getElem?_append_left (List.getElem?_eq_some_iff.1 hi).1]; exact hi,.refl x⟩,Nat.le_refl _,fun b _ h1 h2=>⟨fun h3=>h1 ((hO b).2 (.inl h3)),fun h3=>by
   rcases owned_snoc.1 h3 with h4 | h4
   ·exact h2 h4
   ·simp only [Wit.owns] at h4
    exact h1 ((hO b).2 (.inr h4)),rfl⟩⟩
 have hdl:d<ts.length:=by rw [← h.tsz]; exact (Array.getElem?_eq_some_iff.1 hd).1
 rw [snoc_eq]
 refine ⟨h.defers,by simp [setDst,setNth_eq,h.tsz],fun k s hk=>?_,⟨by simp [h.heap.len],?_,?_,?_,?_,?_⟩,fun x y hx=>(h.glob x y hx).move m⟩
 ·rcases get_setDst hk with ⟨h1,h2⟩ | ⟨_,h2⟩
  ·cases h1; subst h2
   refine ⟨_,hd,.ptr ?_⟩
   rw [cnt_eq,h.heap.len]
   simp [refAt]
  ·obtain ⟨u,h3,h4⟩:=h.tmps k s h2
   exact ⟨u,h3,h4.move m⟩
 ·intro i so x h1 h2
  rcases Nat.lt_or_ge i env.length with hi | hi
  ·rw [List.getElem?_append_left (by rw [h.heap.len]; exact hi)] at h1
   rw [List.getElem?_append_left hi] at h2
   exact (h.heap.rep i so x h1 h2).move m (fun _ _=>rfl)
  ·rw [List.getElem?_append_right (by rw [h.heap.len]; exact hi)] at h1
   rw [List.getElem?_append_right hi] at h2
   rw [h.heap.len] at h1
   cases hj:i-env.length with
   | zero=>
    rw [hj] at h1 h2
    simp at h1 h2
    subst h1; subst h2
    exact ⟨vs.toList,by simpa using hb,hr _ _⟩
   | succ n=>rw [hj] at h1; simp at h1
 ·intro i j x y b hx hy hxb hyb
  have key:∀ (i:Nat) x,(env++[Wit.blk g])[i]?=some x→x.owns b→(i<env.length∧env[i]?=some x)∨(i=env.length∧b=g):=by
   intro i x hx hb
   rcases Nat.lt_or_ge i env.length with hi | hi
   ·rw [List.getElem?_append_left hi] at hx; exact .inl ⟨hi,hx⟩
   ·rw [List.getElem?_append_right hi] at hx
    cases hj:i-env.length with
    | zero=>rw [hj] at hx; simp at hx; subst hx; exact .inr ⟨by omega,hb⟩
    | succ n=>rw [hj] at hx; simp at hx
  rcases key i x hx hxb with ⟨h1,h2⟩ | ⟨h1,h2⟩<;>rcases key j y hy hyb with ⟨h3,h4⟩ | ⟨h3,h4⟩
  ·exact h.heap.disj i j x y b h2 h4 hxb hyb
  ·subst h4; exact (hgo ⟨i,x,h2,hxb⟩).elim
  ·subst h2; exact (hgo ⟨j,y,h4,hyb⟩).elim
  ·omega
 ·intro b hb h1
  rcases owned_snoc.1 hb with h2 | h2
  ·exact h.heap.out b h2 ((hO b).2 (.inl h1))
  ·simp only [Wit.owns] at h2
   subst h2
   exact hg h1
 ·intro b hb
  rcases owned_snoc.1 hb with h2 | h2
  ·exact h.heap.lt b h2
  ·simp only [Wit.owns] at h2
   subst h2
   exact hgl
 ·intro b hb
  exact h.heap.olt b ((hO b).2 (.inl hb))
theorem Step.take {env0:List Wit} {w0:World} (h:Step env0 w0 env w) {g:Nat} (hg:w0.heap.size≤g):Step env0 w0 (env++[.blk g]) w:=by
 refine ⟨h.os,h.tape,h.output,h.size,by simp; have:=h.elen; omega,fun i x hi=>?_,fun b hb=>?_,h.cells⟩
 ·obtain ⟨y,h1,h2⟩:=h.keep i x hi
  exact ⟨y,by rw [List.getElem?_append_left (List.getElem?_eq_some_iff.1 h1).1]; exact h1,h2⟩
 ·rcases owned_snoc.1 hb with h1 | h1
  ·exact h.fresh b h1
  ·simp only [Wit.owns] at h1
   exact .inr (by omega)
end
end Go.Eng

/-! The engine is right: regions whose order is open. Conditions: none. -/
namespace Go.Eng
open Go
variable {A:Nat→Type}
section
variable {P:Program} {ops:Array Oper} {Q:Exit→Act→World→Prop}
/-- Whatever order is picked; behind an operation that leaves alone what was there, all is as it was. -/
def wpAnyO (P:Program) (ops:Array Oper) (Q:Exit→Act→World→Prop) (L:List ((Nat→Bool)×Nat)):Nat→Array Bool→Act→World→Prop
 | 0,listed,a,w=>Region.ready .any ops listed=[]∧Q .normal a w
 | fuel+1,listed,a,w=>
  (Region.ready .any ops listed=[]→Q .normal a w) ∧
  ∀ i∈Region.ready .any ops listed,wpOp P ops Q i (fun a' w'=>(∀ p∈L,p.1 i=true→OldB p.2 w w')∧wpAnyO P ops Q L fuel (listed.setIfInBounds i true) a' w') a w
theorem wpAny_of_O {L:List ((Nat→Bool)×Nat)}:∀ (fuel:Nat) (listed:Array Bool) (a:Act) (w:World),wpAnyO P ops Q L fuel listed a w→wpAny P .any ops Q fuel listed a w
 | 0,_,_,_,h=>h
 | fuel+1,_,_,_,h=>⟨h.1,fun i hi=>wpOp_mono (fun a' w' h'=>wpAny_of_O fuel _ a' w' h'.2) (h.2 i hi)⟩
theorem wpAnyO_less {L L':List ((Nat→Bool)×Nat)} (hL:∀ p∈L',p∈L):∀ (fuel:Nat) (listed:Array Bool) (a:Act) (w:World),wpAnyO P ops Q L fuel listed a w→wpAnyO P ops Q L' fuel listed a w
 | 0,_,_,_,h=>h
 | fuel+1,_,_,_,h=>⟨h.1,fun i hi=>wpOp_mono (fun a' w' h'=>⟨fun p hp=>h'.1 p (hL p hp),wpAnyO_less hL fuel _ a' w' h'.2⟩) (h.2 i hi)⟩
/-- j waits for i. -/
inductive Waits (ops:Array Oper) (i:Nat):Nat→Prop
 | now {j:Nat} {o:Oper} {e:Edge} (ho:ops[j]?=some o) (he:e∈o.after) (hb:Region.binds .any e=true) (h:e.on=i):Waits ops i j
 | more {j:Nat} {o:Oper} {e:Edge} (ho:ops[j]?=some o) (he:e∈o.after) (hb:Region.binds .any e=true) (h:Waits ops i e.on):Waits ops i j
/-- What has come up waits for nothing that has not. -/
def DC (ops:Array Oper) (listed:Array Bool):Prop:=∀ (k:Nat) ok,ops[k]?=some ok→listed.getD k false=true→∀ e∈ok.after,Region.binds .any e=true→listed.getD e.on false=true
theorem waits_listed {listed:Array Bool} (hdc:DC ops listed) {i j:Nat} (h:Waits ops i j) (hl:listed.getD j false=true):listed.getD i false=true:=by
 induction h with
 | now ho he hb h=>rw [← h]; exact hdc _ _ ho hl _ he hb
 | more ho he hb h ih=>exact ih (hdc _ _ ho hl _ he hb)
theorem waits_ready {listed:Array Bool} (hdc:DC ops listed) {i j:Nat} (h:Waits ops i j) (hr:j∈Region.ready .any ops listed):listed.getD i false=true:=by
 obtain ⟨_,o,ho,hall⟩:=mem_ready.1 hr
 cases h with
 | now ho' he hb h=>rw [ho] at ho'; cases ho'; rw [← h]; exact hall _ he hb
 | more ho' he hb h=>rw [ho] at ho'; cases ho'; exact waits_listed hdc h (hall _ he hb)
theorem DC.set {listed:Array Bool} (hdc:DC ops listed) {j:Nat} (hr:j∈Region.ready .any ops listed):DC ops (listed.setIfInBounds j true):=by
 intro k ok hok hk e he hb
 by_cases hkj:j=k
 ·subst hkj
  obtain ⟨_,o,ho,hall⟩:=mem_ready.1 hr
  rw [ho] at hok; cases hok
  exact getD_set_true (hall e he hb)
 ·rw [getD_set_ne false hkj] at hk
  exact getD_set_true (hdc k ok hok hk e he hb)
theorem listed_conflict {listed:Array Bool} {i:Nat} (h1:listed.getD i true=false) (h2:listed.getD i false=true):False:=by
 rcases Nat.lt_or_ge i listed.size with h' | h'
 ·simp [h'] at h1 h2; rw [h1] at h2; cases h2
 ·simp [Array.getElem?_eq_none h'] at h2
theorem wpAnyO_first {i:Nat} {oi:Oper} {v:Value} {lo:Bool} {qn:Nat→Bool} {base:Nat} {L:List ((Nat→Bool)×Nat)} (hi:ops[i]?=some oi) (hsel:∀ (j:Nat) (o:Oper) cs b,ops[j]?=some o→o.op ≠ .select cs b)
  (hQ:∀ c a w,¬Q (.panic c) a w) :
  ∀ (fuel:Nat) (listed:Array Bool) (a:Act) (w:World),DC ops listed →
   (∀ j oj,ops[j]?=some oj→j≠i→listed.getD j true=false→(∀ e∈oj.after,Region.binds .any e=true→e.on≠i)→oi.apart ops oj=true) →
   (lo=true→∀ j oj,ops[j]?=some oj→j≠i→listed.getD j true=false→qn j=false→Waits ops i j) →
   i∈Region.ready .any ops listed→YieldsIf P ops (fun w'=>lo=true→OldB base w w') oi v a →
   wpAnyO P ops Q ((qn,base)::L) fuel (listed.setIfInBounds i true) (a.put oi.dst v) w→wpAnyO P ops Q L (fuel+1) listed a w:=by
 intro fuel
 induction fuel with
 | zero=>
  intro listed a w hdc _ _ hr hy H
  refine ⟨fun h=>(by rw [h] at hr; cases hr),fun j hj=>?_⟩
  by_cases hji:j=i
  ·subst hji; exact hy.wpOp hi (fun _=>OldB.refl _ _) ⟨fun _ _ _=>OldB.refl _ _,H⟩
  ·have:=ready_mono hj hji
   rw [H.1] at this
   cases this
 | succ fuel ih=>
  intro listed a w hdc hfree hwait hr hy H
  refine ⟨fun h=>(by rw [h] at hr; cases hr),fun j hj=>?_⟩
  by_cases hji:j=i
  ·subst hji
   refine hy.wpOp hi (fun _=>OldB.refl _ _) ⟨fun _ _ _=>OldB.refl _ _,wpAnyO_less (fun p hp=>List.mem_cons_of_mem _ hp) _ _ _ _ H⟩
  ·have h1:=H.2 j (ready_mono hj hji)
   obtain ⟨hjun,oj,hoj,hall⟩:=mem_ready.1 hj
   have hiun:=(mem_ready.1 hr).1
   have hnot:∀ e∈oj.after,Region.binds .any e=true→e.on≠i:=fun e he hb heq=>by
    have h1:=hall e he hb
    rw [heq] at h1
    exact listed_conflict hiun h1
   have hquiet:lo=true→qn j=true:=fun hlo=>by
    cases hq:qn j with
    | true=>rfl
    | false=>exact (listed_conflict hiun (waits_ready hdc (hwait hlo j oj hoj hji hjun hq) hj)).elim
   have h2:=wpOp_putIf hoj (hfree j oj hoj hji hjun hnot) (fun cs b=>hsel i oi cs b hi) (fun cs b=>hsel j oj cs b hoj) (fun c a w h=>(hQ c _ w h).elim) hy h1
   refine wpOp_mono (fun a' w' h'=>?_) h2
   obtain ⟨hy',hold,H'⟩:=h'
   refine ⟨fun p hp=>hold p (List.mem_cons_of_mem _ hp),ih (listed.setIfInBounds j true) a' w' (hdc.set hj) (fun k ok hok hki hun hno=>?_) (fun hlo k ok hok hki hun hq=>?_) (ready_mono hr (Ne.symm hji)) ?_ ?_⟩
   ·refine hfree k ok hok hki ?_ hno
    by_cases hkj:j=k
    ·subst hkj; exact hjun
    ·rwa [getD_set_ne true hkj] at hun
   ·refine hwait hlo k ok hok hki ?_ hq
    by_cases hkj:j=k
    ·subst hkj; exact hjun
    ·rwa [getD_set_ne true hkj] at hun
   ·rcases hy' with ⟨hw,hv⟩ | hu
    ·exact .inl ⟨hw,fun w'' hw''=>hv w'' (fun hlo=>(hold (qn,base) List.mem_cons_self (hquiet hlo)).trans (hw'' hlo))⟩
    ·exact .inr hu
   ·rw [Array.setIfInBounds_comm _ _ hji]
    exact H'
end
section
variable {E:Eng A} {O:Nat→Prop} {ts:List (SV A)} {sh:List (SO A)} {env:List Wit} {a:Act} {w:World} {o:Oper}
theorem inL_iff:∀ {x:Nat} {l:List Nat},inL x l=true↔x∈l
 | x,[]=>by simp [inL]
 | x,y::l=>by
  simp only [inL]
  split
  ·rename_i h; simp [h]
  ·rename_i h; simp [h,inL_iff (l:=l)]
/-- What has come up, as a list and as an array. -/
structure DR (ops:Array Oper) (done:List Nat) (listed:Array Bool):Prop where
 size:listed.size=ops.size
 get:∀ k,k<ops.size→listed[k]?=some (inL k done)
 lt:∀ k,k∈done→k<ops.size
theorem DR.getD {ops:Array Oper} {done:List Nat} {listed:Array Bool} (h:DR ops done listed) (k:Nat) (hk:k<ops.size) (d:Bool):listed.getD k d=inL k done:=by
 simp [h.get k hk]
theorem DR.out {ops:Array Oper} {done:List Nat} {listed:Array Bool} (h:DR ops done listed) (k:Nat) (hk:¬k<ops.size) (d:Bool):listed.getD k d=d:=by
 have:listed[k]?=none:=Array.getElem?_eq_none (by rw [h.size]; omega)
 simp [this]
theorem DR.set {ops:Array Oper} {done:List Nat} {listed:Array Bool} (h:DR ops done listed) (i:Nat) (hi:i<ops.size):DR ops (i::done) (listed.setIfInBounds i true):=by
 refine ⟨by simp [h.size],fun k hk=>?_,fun k hk=>?_⟩
 ·by_cases e:i=k
  ·subst e
   rw [Array.getElem?_setIfInBounds_self_of_lt (by rw [h.size]; exact hk)]
   simp [inL]
  ·rw [Array.getElem?_setIfInBounds_ne e,h.get k hk]
   simp [inL,Ne.symm e]
 ·rcases List.mem_cons.1 hk with e | hk
  ·rw [e]; exact hi
  ·exact h.lt k hk
theorem isReady_iff {done:List Nat} {o:Oper}:∀ {l:List Edge},isReady done o l=true↔∀ e∈l,Region.binds .any e=true→inL e.on done=true
 | []=>by simp [isReady]
 | e::l=>by
  simp only [isReady]
  split
  ·rename_i hb
   split
   ·rename_i hi
    rw [isReady_iff (l:=l)]
    simp [hb,hi]
   ·rename_i hi
    simp only [Bool.false_eq_true,false_iff]
    intro h
    exact hi (h e (List.mem_cons_self) hb)
  ·rename_i hb
   rw [isReady_iff (l:=l)]
   simp [hb]
theorem mem_readyFrom {done:List Nat}:∀ {l:List Oper} {i k:Nat},k∈readyFrom done i l↔∃ j o,k=i+j∧l[j]?=some o∧inL k done=false∧isReady done o o.after.toList=true
 | [],i,k=>by simp [readyFrom]
 | o::l,i,k=>by
  have ih:=mem_readyFrom (done:=done) (l:=l) (i:=i+1) (k:=k)
  have tail:(∃ j o',k=i+1+j∧l[j]?=some o'∧inL k done=false∧isReady done o' o'.after.toList=true)→∃ j o',k=i+j∧(o::l)[j]?=some o'∧inL k done=false∧isReady done o' o'.after.toList=true:=by
   rintro ⟨j,o',h1,h2,h3,h4⟩
   exact ⟨j+1,o',by omega,by simpa using h2,h3,h4⟩
  have back:k≠i→(∃ j o',k=i+j∧(o::l)[j]?=some o'∧inL k done=false∧isReady done o' o'.after.toList=true)→∃ j o',k=i+1+j∧l[j]?=some o'∧inL k done=false∧isReady done o' o'.after.toList=true:=by
   rintro hne ⟨j,o',h1,h2,h3,h4⟩
   cases j with
   | zero=>exact absurd h1 (by simpa using hne)
   | succ j=>exact ⟨j,o',by omega,by simpa using h2,h3,h4⟩
  simp only [readyFrom]
  split
  ·rename_i hd
   rw [ih]
   refine ⟨tail,fun h=>back (fun e=>?_) h⟩
   obtain ⟨_,_,_,_,h3,_⟩:=h
   rw [e,hd] at h3; cases h3
  ·rename_i hd
   split
   ·rename_i hr
    rw [List.mem_cons,ih]
    constructor
    ·rintro (h | h)
     ·exact ⟨0,o,by omega,rfl,by rw [h]; simpa using hd,hr⟩
     ·exact tail h
    ·intro h
     by_cases e:k=i
     ·exact .inl e
     ·exact .inr (back e h)
   ·rename_i hr
    rw [ih]
    refine ⟨tail,fun h=>back (fun e=>?_) h⟩
    obtain ⟨j,o',h1,h2,_,h4⟩:=h
    have:j=0:=by omega
    subst this
    simp at h2
    subst h2
    exact hr h4
theorem ready_iff {ops:Array Oper} {done:List Nat} {listed:Array Bool} (h:DR ops done listed) {k:Nat}:k∈Region.ready .any ops listed↔k∈readyFrom done 0 ops.toList:=by
 rw [mem_ready,mem_readyFrom]
 constructor
 ·rintro ⟨h1,o,ho,h2⟩
  have hk:k<ops.size:=(Array.getElem?_eq_some_iff.1 ho).1
  refine ⟨k,o,by omega,by rw [Array.getElem?_toList]; exact ho,by rw [← h.getD k hk true]; exact h1,isReady_iff.2 fun e he hb=>?_⟩
  have h3:=h2 e (Array.mem_toList_iff.1 he) hb
  by_cases hon:e.on<ops.size
  ·rw [← h.getD e.on hon false]; exact h3
  ·rw [h.out e.on hon] at h3; cases h3
 ·rintro ⟨j,o,h1,h2,h3,h4⟩
  have hj:j=k:=by omega
  subst hj
  rw [Array.getElem?_toList] at h2
  have hk:j<ops.size:=(Array.getElem?_eq_some_iff.1 h2).1
  refine ⟨by rw [h.getD j hk true]; exact h3,o,h2,fun e he hb=>?_⟩
  have h5:=isReady_iff.1 h4 e (Array.mem_toList_iff.2 he) hb
  by_cases hon:e.on<ops.size
  ·rw [h.getD e.on hon false]; exact h5
  ·exact absurd (h.lt _ (inL_iff.1 h5)) hon
theorem anyE_spec {i:Nat} {rec:Nat→Bool}:∀ {l:List Edge},anyE i rec l=true→∃ e∈l,Region.binds .any e=true∧(e.on=i∨rec e.on=true)
 | [],h=>by simp [anyE] at h
 | e::l,h=>by
  simp only [anyE] at h
  split at h
  ·rename_i hb
   split at h
   ·rename_i he
    exact ⟨e,List.mem_cons_self,hb,.inl he⟩
   ·split at h
    ·rename_i hr
     exact ⟨e,List.mem_cons_self,hb,.inr hr⟩
    ·obtain ⟨e',h1,h2,h3⟩:=anyE_spec h
     exact ⟨e',List.mem_cons_of_mem _ h1,h2,h3⟩
  ·obtain ⟨e',h1,h2,h3⟩:=anyE_spec h
   exact ⟨e',List.mem_cons_of_mem _ h1,h2,h3⟩
theorem directly_spec {i:Nat}:∀ {l:List Edge},directly i l=true→∃ e∈l,Region.binds .any e=true∧e.on=i
 | [],h=>by simp [directly] at h
 | e::l,h=>by
  simp only [directly] at h
  split at h
  ·rename_i hb
   split at h
   ·rename_i he
    exact ⟨e,List.mem_cons_self,hb,he⟩
   ·obtain ⟨e',h1,h2,h3⟩:=directly_spec h
    exact ⟨e',List.mem_cons_of_mem _ h1,h2,h3⟩
  ·obtain ⟨e',h1,h2,h3⟩:=directly_spec h
   exact ⟨e',List.mem_cons_of_mem _ h1,h2,h3⟩
theorem waits_spec {ops:Array Oper} {i:Nat}:∀ {f j:Nat},waits ops.toList i f j=true→Waits ops i j
 | 0,_,h=>by simp [waits] at h
 | f+1,j,h=>by
  simp only [waits,nth_eq,Array.getElem?_toList] at h
  split at h
  ·rename_i o ho
   split at h
   ·rename_i hd
    obtain ⟨e,h1,h2,h3⟩:=directly_spec hd
    exact .now ho (Array.mem_toList_iff.1 h1) h2 h3
   ·obtain ⟨e,h1,h2,h3⟩:=anyE_spec h
    rcases h3 with h3 | h3
    ·exact .now ho (Array.mem_toList_iff.1 h1) h2 h3
    ·exact .more ho (Array.mem_toList_iff.1 h1) h2 (waits_spec h3)
  ·cases h
theorem allWait_spec {ops:List Oper} {late:Bool} {done:List Nat} {ts:List (SV A)} {i:Nat}:∀ {l:List Oper} {k:Nat},allWait E ops late done ts i k l=true →
  ∀ (j:Nat) o,l[j]?=some o→inL (k+j) done=false→k+j≠i→quietNow E ops late done ts o=false→waits ops i (cnt ops) (k+j)=true
 | [],_,_,j,o,h,_,_,_=>by simp at h
 | x::l,k,h,j,o,hj,hd,hne,hq=>by
  simp only [allWait] at h
  have rest:allWait E ops late done ts i (k+1) l=true→(j≠0→waits ops i (cnt ops) (k+j)=true):=by
   intro h hj0
   obtain ⟨j',rfl⟩:∃ j',j=j'+1:=⟨j-1,by omega⟩
   have:=allWait_spec h j' o (by simpa using hj) (by rw [show k+1+j'=k+(j'+1) from by omega]; exact hd) (by omega) hq
   rwa [show k+1+j'=k+(j'+1) from by omega] at this
  by_cases hj0:j=0
  ·subst hj0
   simp at hj
   subst hj
   rw [Nat.add_zero] at hd hne ⊢
   rw [if_neg (by simp [hd]),if_neg hne,if_neg (by simp [hq])] at h
   split at h
   ·assumption
   ·cases h
  ·refine rest ?_ hj0
   split at h
   ·exact h
   ·split at h
    ·exact h
    ·split at h
     ·exact h
     ·split at h
      ·exact h
      ·cases h
theorem allApart_spec {ops:List Oper} {done:List Nat} {i:Nat} {oi:Oper}:∀ {l:List Oper} {k:Nat},allApart ops done i oi k l=true →
  ∀ (j:Nat) o,l[j]?=some o→inL (k+j) done=false→k+j≠i→directly i o.after.toList=true∨oi.apart ops.toArray o=true
 | [],_,_,j,o,h,_,_=>by simp at h
 | x::l,k,h,j,o,hj,hd,hne=>by
  simp only [allApart] at h
  have rest:allApart ops done i oi (k+1) l=true→(j≠0→directly i o.after.toList=true∨oi.apart ops.toArray o=true):=by
   intro h hj0
   obtain ⟨j',rfl⟩:∃ j',j=j'+1:=⟨j-1,by omega⟩
   exact allApart_spec h j' o (by simpa using hj) (by rw [show k+1+j'=k+(j'+1) from by omega]; exact hd) (by omega)
  by_cases hj0:j=0
  ·subst hj0
   simp at hj
   subst hj
   rw [Nat.add_zero] at hd hne
   rw [if_neg (by simp [hd]),if_neg hne] at h
   split at h
   ·rename_i h1; exact .inl h1
   ·split at h
    ·rename_i h1; exact .inr h1
    ·cases h
  ·refine rest ?_ hj0
   split at h
   ·exact h
   ·split at h
    ·exact h
    ·split at h
     ·exact h
     ·split at h
      ·exact h
      ·cases h
/-- An operation that may be taken first yields its value, whatever else comes up ahead of it. -/
theorem early_sound (_hTT:∀ g,Meets E.P E.C E.GL (E.qf g) g (E.TT g)) {n:Nat} (hw:WF ts n) (h:Rel E O ts sh env a w) {ops:Array Oper} {K:List (SV A)→List (SO A)→Nat→Prop} (hk:guarded E ops.toList o ts sh n K)
  (hearly:regOnly E.P o.op=true∨isLoad o.op=true) :
  ∃ v ts' n',YieldsIf E.P ops (fun w'=>isLoad o.op=true→Old w w') o v a∧WF ts' n'∧Rel E O ts' sh env (a.put o.dst v) w∧K ts' sh n':=by
 rcases guard_cases hw h hk with ⟨h1,ts1,h2,h3,h4⟩ | ⟨h1,ts1,h2,h3,h4⟩
 ·have fin:∀ {K':Pred A},OpY E O o sh env a w K'→(∀ s,K' s sh→∃ ts' n' ,WF ts' n'∧(∀ v,Rep O env w E.C s v→Rel E O ts' sh env (a.put o.dst v) w)∧K ts' sh n')→∃ v ts' n',YieldsIf E.P ops (fun w'=>isLoad o.op=true→Old w w') o v a∧WF ts' n'∧Rel E O ts' sh env (a.put o.dst v) w∧K ts' sh n':=by
   rintro K' ⟨v,s,h5,h6,h7⟩ hh
   obtain ⟨ts',n',h8,h9,h10⟩:=hh s h7
   exact ⟨v,ts',n',.inl ⟨h1,fun w' _=>h5 w'⟩,h8,h9 v h6,h10⟩
  unfold runOp at h4
  split at h4
  ·rename_i x ho
   exact fin (op_move (K:=fun s sh'=>s=ev E ts1 x∧sh'=sh) ho h3 ⟨rfl,rfl⟩) (fun s hs=>by
    obtain ⟨rfl,_⟩:=hs
    exact ⟨_,n,h2.put_old o.dst _ (ev_old x),fun v hr=>rel_put h3 (Step.refl _ _) h3.heap hr o.dst,h4⟩)
  ·rename_i x ho
   exact fin (op_assign (K:=fun s sh'=>s=ev E ts1 x∧sh'=sh) ho h3 ⟨rfl,rfl⟩) (fun s hs=>by
    obtain ⟨rfl,_⟩:=hs
    exact ⟨_,n,h2.put_old o.dst _ (ev_old x),fun v hr=>rel_put h3 (Step.refl _ _) h3.heap hr o.dst,h4⟩)
  ·rename_i hnm hna
   have fin2:OpY E O o sh env a w (fun v sh'=>K (setDst ts1 o.dst (named n v)) sh' (n+1))→∃ v ts' n',YieldsIf E.P ops (fun w'=>isLoad o.op=true→Old w w') o v a∧WF ts' n'∧Rel E O ts' sh env (a.put o.dst v) w∧K ts' sh n':=
    fun hy=>fin hy (fun s hs=>⟨_,n+1,h2.put_new o.dst s,fun v hr=>rel_put h3 (Step.refl _ _) h3.heap (rep_named n hr) o.dst,hs⟩)
   obtain ⟨op,ho⟩:∃ op,o.op=op:=⟨_,rfl⟩
   rw [ho] at h4 hearly
   cases op<;>simp [regOnly,isLoad] at hearly
   case move x=>exact (hnm x ho).elim
   case assign x=>exact (hna x ho).elim
   case pick c x y=>exact fin2 (op_pick ho h3 h4)
   case load t x=>
    obtain ⟨ad,v,s,h5,h6,h7,h8⟩:=run_loadS h3 h4
    refine ⟨v,_,n+1,.inl ⟨h1,fun w' hw'=>?_⟩,h2.put_new o.dst s,rel_put h3 (Step.refl _ _) h3.heap (rep_named n h7) o.dst,h8⟩
    simp only [execOp,ho,h5,Instr.loadAt,Instr.sureAddr]
    simp [h6 w' (hw' (by simp [isLoad,ho]))]
   case nilCheck x=>exact fin2 (op_nilCheck ho h3 h4)
   case binOp op t x y t'=>exact fin2 (op_binOp ho h3 h4)
   case unOp op t x=>exact fin2 (op_unOp ho h3 h4)
   case convert s d x=>
    obtain ⟨hne,hearly⟩:=hearly
    split at hearly
    ·rename_i k1 e1
     simp only [stepOp,if_neg hne] at h4
     exact fin2 (op_convert ho e1 h3 h4)
    ·cases hearly
   case makeInterface t x=>exact fin2 (op_makeInterface ho h3 h4)
   case makeFunc f x y=>exact fin2 (op_makeFunc ho h3 h4)
   case fieldAddr s x f=>exact fin2 (op_fieldAddr ho h3 h4)
   case field s x f=>exact fin2 (op_field ho h3 h4)
   case indexAddr t x y=>exact fin2 (op_indexAddr ho h3 h4)
   case extract x i=>exact fin2 (op_extract ho h3 h4)
   case slice t x lo hi mx=>
    unfold isArr at hearly
    split at hearly
    ·rename_i n e hd
     exact fin2 (op_sliceA ho hd h3 h4)
    ·cases hearly
   case index t x y=>exact fin2 (op_index ho h3 h4)
   case sliceToArrayPointer t x=>exact fin2 (op_s2ap ho h3 h4)
   case call c=>
    simp only [stepOp] at h4
    split at hearly
    ·rename_i hc
     rw [hc] at h4
     simp only at h4
     obtain ⟨t,x,hat,har⟩:∃ t x,c.argTypes.toList=[t]∧c.args.toList=[x]:=by
      unfold builtinS at h4
      split at h4
      all_goals first
       | (rename_i hat har; obtain ⟨y,hy,_⟩:=map_one har; exact ⟨_,y,hat,hy⟩)
       | contradiction
       | exact h4.elim
     rw [hat,har] at h4
     rw [hat] at hearly
     exact fin2 (op_len ho hc (toList_one hat) (toList_one har) (fun k v e=>by simp [e] at hearly) h3 h4)
    ·cases hearly
 ·exact ⟨Go.undef,_,n,.inr ⟨h1,rfl⟩,h2.undef o.dst,rel_undef h3 o.dst,h4⟩
theorem noSel_spec:∀ {l:List Oper},noSel l=true→∀ (j:Nat) (o:Oper) cs b,l[j]?=some o→o.op ≠ .select cs b
 | [],_,j,o,_,_,h=>by simp at h
 | x::l,h,j,o,cs,b,hj=>by
  simp only [noSel] at h
  split at h
  ·cases h
  ·rename_i hx
   cases j with
   | zero=>simp at hj; subst hj; exact hx cs b
   | succ j=>exact noSel_spec h j o cs b (by simpa using hj)
theorem allOf_spec {f:Nat→Prop}:∀ {l:List Nat},allOf f l→∀ i∈l,f i
 | [],_,i,h=>by cases h
 | [j],h,i,hi=>by
  simp at hi; subst hi; exact h
 | j::k::l,h,i,hi=>by
  rcases List.mem_cons.1 hi with e | hi
  ·rw [e]; exact h.1
  ·exact allOf_spec (l:=k::l) h.2 i hi
theorem firstEarly_spec {ops:List Oper} {late:Bool} {done:List Nat} {ts:List (SV A)}:∀ {l:List Nat} {i:Nat},firstEarly E ops late done ts l=some i→i∈l∧∃ o,ops[i]?=some o∧mayFirst E ops late done ts i o=true
 | [],i,h=>by simp [firstEarly] at h
 | j::l,i,h=>by
  simp only [firstEarly,nth_eq] at h
  split at h
  ·rename_i o ho
   split at h
   ·rename_i hm
    cases h
    exact ⟨List.mem_cons_self,o,ho,hm⟩
   ·obtain ⟨h1,h2⟩:=firstEarly_spec h
    exact ⟨List.mem_cons_of_mem _ h1,h2⟩
  ·obtain ⟨h1,h2⟩:=firstEarly_spec h
   exact ⟨List.mem_cons_of_mem _ h1,h2⟩
end
end Go.Eng

/-! The engine is right: what an operation may do ahead of others. Conditions: none. -/
namespace Go.Eng
open Go
variable {A:Nat→Type}
theorem allocOf_spec {o:Oper} {d:Nat} (h:allocOf o=some d):∃ t,o.op = .alloc t∧o.guard=none∧o.dst=some d:=by
 unfold allocOf at h
 split at h
 ·rename_i t ho
  split at h
  ·rename_i hg
   exact ⟨t,ho,hg,h⟩
  ·cases h
 ·cases h
/-- What an operation does to memory. -/
structure Eff (E:Eng A) (o:Oper) (a:Act) (w:World) (v:Value) (w':World):Prop where
 quiet:quietOp E o.op=true→Old w w'
 nil:∀ c x l,o.op = .call c→c.callee = .builtin .append→c.args.toList=x::l→a.eval x = .slice none 0 0→Old w w'
 store:∀ t x y ad,o.op = .store t x y→a.eval x = .pointer (some ad)→∀ b,b≤ad.block→OldB b w w'
 new:∀ t,allocOf o=some t→∃ ad:Addr,v = .pointer (some ad)∧w.heap.size≤ad.block
section
variable {E:Eng A} {O:Nat→Prop} {ts:List (SV A)} {sh:List (SO A)} {env:List Wit} {a:Act} {w:World} {o:Oper}
theorem step_sound (hTT:∀ g,Meets E.P E.C E.GL (E.qf g) g (E.TT g)) {n:Nat} (hw:WF ts n) (h:Rel E O ts sh env a w) {ops:Array Oper} {K:List (SV A)→List (SO A)→Nat→Prop} (hk:guarded E ops.toList o ts sh n K)
  {next:Act→World→Prop} {Q:Exit→Act→World→Prop}
  (hn:∀ ts' sh' n' env' v w',WF ts' n'→Rel E O ts' sh' env' (a.put o.dst v) w'→Step env w env' w'→Eff E o a w v w'→K ts' sh' n'→next (a.put o.dst v) w') :
  if Region.wanted o (yielded ops a.tmps) then o.wp E.P a w next Q else next (a.put o.dst Go.undef) w:=by
 rcases guard_cases hw h hk with ⟨h1,ts1,h2,h3,h4⟩ | ⟨h1,ts1,h2,h3,h4⟩
 ·rw [if_pos h1]
  by_cases hal:∃ t,o.op = .alloc t
  ·obtain ⟨t,ho⟩:=hal
   simp only [runOp,ho,stepOp] at h4
   split at h4
   case h_2=>exact h4.elim
   rename_i cs hz
   obtain ⟨i,z,hi,hiz,hr⟩:=tyZero_spec hz
   obtain ⟨g1,g2⟩:=h3.heap.new t cs z.cells.toList (hr O env w E.C)
   rw [snoc_eq] at h4
   rw [Array.toArray_toList] at g1 g2
   have hrun:(execOp a.eval o).run E.P w = .ok (.value (.pointer (some ⟨w.heap.size,0,none⟩))) (w.alloc (.cells z.cells t)):=by
    simp [execOp,ho,Instr.alloc,zeroValue,typeInfo,hi,hiz,newVar,newRow]
   unfold Oper.wp
   rw [hrun]
   exact hn _ _ _ _ _ _ (h2.put_new o.dst _) (rel_put h3 g2 g1 (rep_named n (rep_ptr_new h3.heap _ _)) o.dst) g2
    ⟨fun _=>Old.alloc _ _,fun c x l e=>(by rw [ho] at e; cases e),fun t' x y ad e=>(by rw [ho] at e; cases e),fun _ _=>⟨_,rfl,Nat.le_refl _⟩⟩ h4
  ·have hF:∃ F:World→Prop,(∀ w',F w'→(∀ c x l,o.op = .call c→c.callee = .builtin .append→c.args.toList=x::l→a.eval x = .slice none 0 0→Old w w')∧(∀ t x y ad,o.op = .store t x y→a.eval x = .pointer (some ad)→∀ b,b≤ad.block→OldB b w w'))∧((∀ w',F w')∨∀ r w',(execOp a.eval o).run E.P w = .ok r w'→((∃ v,r = .value v)∨r = .skip)∧F w'):=by
    by_cases hs:∃ t x y ad,o.op = .store t x y∧a.eval x = .pointer (some ad)
    ·obtain ⟨t,x,y,ad,ho,hx⟩:=hs
     refine ⟨fun w'=>∀ b,b≤ad.block→OldB b w w',fun w' hF=>⟨fun c x l e=>(by rw [ho] at e; cases e),fun t' x' y' ad' e hx'=>?_⟩,.inr fun r w' hr=>?_⟩
     ·rw [ho] at e
      cases e
      rw [hx] at hx'
      cases hx'
      exact hF
     ·have hk3:stepOp E o.op ts1 sh (fun v sh'=>K (setDst ts1 o.dst (named n v)) sh' (n+1)):=by
       simp only [runOp,ho] at h4
       rw [ho]
       exact h4
      exact stored_run ho hx h3 hk3 hr
    ·by_cases hc:∃ c x l,o.op = .call c∧c.callee = .builtin .append∧c.args.toList=x::l∧a.eval x = .slice none 0 0
     ·obtain ⟨c,x,l,ho,hcc,har,hx⟩:=hc
      refine ⟨fun w'=>Old w w',fun w' hF=>⟨fun _ _ _ _ _ _ _=>hF,fun t' x' y' ad' e=>by rw [ho] at e; cases e⟩,.inr fun r w' hr=>?_⟩
      have hk3:stepOp E o.op ts1 sh (fun v sh'=>K (setDst ts1 o.dst (named n v)) sh' (n+1)):=by
       simp only [runOp,ho] at h4
       rw [ho]
       exact h4
      obtain ⟨v,w2,hrun,hold⟩:=nilapp_run ho hcc har hx h3 hk3
      rw [hrun] at hr
      cases hr
      exact ⟨.inl ⟨v,rfl⟩,hold⟩
     ·exact ⟨fun _=>True,fun w' _=>⟨fun c x l h5 h6 h7 h8=>(hc ⟨c,x,l,h5,h6,h7,h8⟩).elim,fun t x y ad h5 h6=>(hs ⟨t,x,y,ad,h5,h6⟩).elim⟩,.inl fun _=>trivial⟩
   obtain ⟨F,hF1,hF2⟩:=hF
   have hwp:o.wp E.P a w (fun a' w'=>F w'→next a' w') Q:=runOp_sound hTT h2 h3 h4 (fun ts' sh' n' env' v w' hw' h' hs hold hk' hf=>
    hn _ _ _ _ _ _ hw' h' hs ⟨hold,(hF1 w' hf).1,(hF1 w' hf).2,fun t ht=>by
     obtain ⟨t',ho,_,_⟩:=allocOf_spec ht
     exact (hal ⟨t',ho⟩).elim⟩ hk')
   rcases hF2 with hF2 | hF2
   ·exact Oper.wp_mono (fun a' w' hh=>hh (hF2 w')) hwp
   ·exact Oper.wp_mono (fun a' w' hh=>hh.1 hh.2) (wp_frame hF2 hwp)
 ·rw [h1]
  exact hn _ _ _ _ _ _ (h2.undef o.dst) (rel_undef h3 o.dst) (Step.refl _ _) ⟨fun _=>Old.refl _,fun _ _ _ _ _ _ _=>Old.refl _,fun _ _ _ _ _ _ _ _=>OldB.refl _ _,fun t ht=>by
   obtain ⟨_,_,hg,_⟩:=allocOf_spec ht
   simp [Region.wanted,hg] at h1⟩ h4
def FreeT (ops:Array Oper) (listed:Array Bool) (t:Nat):Prop:=∀ (k:Nat) ok,ops[k]?=some ok→listed.getD k true=false→ok.dst≠some t
def QOK (E:Eng A) (ops:Array Oper) (listed:Array Bool) (a:Act) (p:(Nat→Bool)×Nat):Prop:=∀ (j:Nat) oj,ops[j]?=some oj→listed.getD j true=false→p.1 j=true →
 quietOp E oj.op=true ∨
 (∃ c x l,oj.op = .call c∧c.callee = .builtin .append∧c.args.toList=x::l∧a.eval x = .slice none 0 0∧∀ t,x = .tmp t→FreeT ops listed t) ∨
 (∃ t x y,oj.op = .store t (.tmp x) y∧((x<a.tmps.size∧∃ (k:Nat) (ok:Oper) (e:Edge),ops[k]?=some ok∧listed.getD k true=false∧allocOf ok=some x∧e∈oj.after∧Region.binds .any e=true∧e.on=k ∧
   ∀ (k':Nat) ok',ops[k']?=some ok'→listed.getD k' true=false→k'≠k→ok'.dst≠some x) ∨
  (∃ ad:Addr,a.eval (.tmp x) = .pointer (some ad)∧p.2≤ad.block∧FreeT ops listed x)))
theorem unlisted_set {listed:Array Bool} {i j:Nat} (h:(listed.setIfInBounds i true).getD j true=false):j≠i∧listed.getD j true=false:=by
 by_cases e:i=j
 ·subst e
  exfalso
  rcases Nat.lt_or_ge i listed.size with h' | h'
  ·simp [h'] at h
  ·simp at h
 ·rw [getD_set_ne true e] at h
  exact ⟨fun e'=>e e'.symm,h⟩
theorem FreeT.set {ops:Array Oper} {listed:Array Bool} {t:Nat} (h:FreeT ops listed t) (i:Nat):FreeT ops (listed.setIfInBounds i true) t:=fun k ok hk hl=>h k ok hk (unlisted_set hl).2
theorem eval_put {x:Operand} {d:Option Tmp} {v:Value} (h:∀ t,x = .tmp t→d≠some t):(a.put d v).eval x=a.eval x:=by
 cases x with
 | tmp t=>
  cases d with
  | none=>rfl
  | some d=>
   have:d≠t:=fun e=>h t rfl (by rw [e])
   simp only [Act.eval,Act.put,Array.getD_eq_getD_getElem?]
   rw [Array.getElem?_setIfInBounds_ne this]
 | const _=>rfl
 | global _=>rfl
 | func _=>rfl
theorem QOK.put {ops:Array Oper} {listed:Array Bool} {p:(Nat→Bool)×Nat} (h:QOK E ops listed a p) {i:Nat} {oi:Oper} (hi:ops[i]?=some oi) (hl:listed.getD i true=false) {v:Value}
  (hv:∀ t,allocOf oi=some t→∃ ad:Addr,v = .pointer (some ad)∧p.2≤ad.block):QOK E ops (listed.setIfInBounds i true) (a.put oi.dst v) p:=by
 intro j oj hj hjl hq
 obtain ⟨hji,hjl⟩:=unlisted_set hjl
 rcases h j oj hj hjl hq with h1 | ⟨c,x,l,h1,h2,h3,h4,h5⟩ | ⟨t,x,y,h1,h2⟩
 ·exact .inl h1
 ·exact .inr (.inl ⟨c,x,l,h1,h2,h3,by rw [eval_put fun t e=>h5 t e i oi hi hl]; exact h4,fun t e=>(h5 t e).set i⟩)
 ·refine .inr (.inr ⟨t,x,y,h1,?_⟩)
  rcases h2 with ⟨hx,k,ok,e,h3,h4,h5,h6,h7,h8,h9⟩ | ⟨ad,h3,h4,h5⟩
  ·by_cases e1:k=i
   ·subst e1
    rw [hi] at h3
    cases h3
    obtain ⟨ad,hv1,hv2⟩:=hv x h5
    obtain ⟨_,_,_,hd⟩:=allocOf_spec h5
    refine .inr ⟨ad,?_,hv2,fun k' ok' hk' hl'=>?_⟩
    ·rw [hd,hv1]
     simp only [Act.eval,Act.put,Array.getD_eq_getD_getElem?]
     rw [Array.getElem?_setIfInBounds_self_of_lt hx]
     rfl
    ·obtain ⟨h10,h11⟩:=unlisted_set hl'
     exact h9 k' ok' hk' h11 h10
   ·refine .inl ⟨?_,k,ok,e,h3,by rw [getD_set_ne true (fun e2=>e1 e2.symm)]; exact h4,h5,h6,h7,h8,fun k' ok' hk' hl' hne=>h9 k' ok' hk' (unlisted_set hl').2 hne⟩
    cases oi.dst<;>simpa [Act.put] using hx
  ·exact .inr ⟨ad,by rw [eval_put fun t' e=>by cases e; exact h5 i oi hi hl]; exact h3,h4,h5.set i⟩
/-- What is said of it holds. -/
theorem QOK.old {ops:Array Oper} {listed:Array Bool} {p:(Nat→Bool)×Nat} (h:QOK E ops listed a p) (hp:p.2≤w.heap.size) {i:Nat} (hi:ops[i]?=some o) (hr:i∈Region.ready .any ops listed) {v:Value} {w':World} (he:Eff E o a w v w') :
  p.1 i=true→OldB p.2 w w':=by
 intro hq
 obtain ⟨hl,o',ho',hall⟩:=mem_ready.1 hr
 rw [hi] at ho'
 cases ho'
 rcases h i o hi hl hq with h1 | ⟨c,x,l,h1,h2,h3,h4,_⟩ | ⟨t,x,y,h1,h2⟩
 ·exact (he.quiet h1).upTo hp
 ·exact (he.nil c x l h1 h2 h3 h4).upTo hp
 ·rcases h2 with ⟨_,k,ok,e,h3,h4,h5,h6,h7,h8,_⟩ | ⟨ad,h3,h4,_⟩
  ·have:=hall e h6 h7
   rw [h8] at this
   exact (listed_conflict h4 this).elim
  ·exact he.store t (.tmp x) y ad h1 h3 p.2 h4
theorem unwritten_spec {done:List Nat} {t:Nat}:∀ {l:List Oper} {k:Nat},unwritten done t k l=true→∀ (j:Nat) o,l[j]?=some o→inL (k+j) done=false→o.dst≠some t
 | [],_,_,j,o,h,_=>by simp at h
 | x::l,k,h,j,o,hj,hd=>by
  simp only [unwritten] at h
  have rest:unwritten done t (k+1) l=true→j≠0→o.dst≠some t:=by
   intro h hj0
   obtain ⟨j',rfl⟩:∃ j',j=j'+1:=⟨j-1,by omega⟩
   exact unwritten_spec h j' o (by simpa using hj) (by rw [show k+1+j'=k+(j'+1) from by omega]; exact hd)
  by_cases hj0:j=0
  ·subst hj0
   simp at hj
   subst hj
   rw [Nat.add_zero] at hd
   rw [if_neg (by simp [hd])] at h
   split at h
   ·rename_i d hd1
    split at h
    ·cases h
    ·rename_i hne
     rw [hd1]
     simpa using hne
   ·rename_i hd1
    rw [hd1]; simp
  ·refine rest ?_ hj0
   split at h
   ·exact h
   ·split at h
    ·split at h
     ·cases h
     ·exact h
    ·exact h
theorem newAt_spec {done:List Nat} {t:Nat}:∀ {l:List Oper} {k r:Nat},newAt done t k l=some r→∃ j o,r=k+j∧l[j]?=some o∧inL r done=false∧allocOf o=some t∧∀ (j':Nat) o',l[j']?=some o'→inL (k+j') done=false→j'≠j→o'.dst≠some t
 | [],_,_,h=>by simp [newAt] at h
 | x::l,k,r,h=>by
  simp only [newAt] at h
  have rest:newAt done t (k+1) l=some r→(inL k done=false→x.dst≠some t)→∃ j o,r=k+j∧(x::l)[j]?=some o∧inL r done=false∧allocOf o=some t∧∀ (j':Nat) o',(x::l)[j']?=some o'→inL (k+j') done=false→j'≠j→o'.dst≠some t:=by
   intro h hx
   obtain ⟨j,o,h1,h2,h3,h4,h5⟩:=newAt_spec h
   refine ⟨j+1,o,by omega,by simpa using h2,h3,h4,fun j' o' hj' hd hne=>?_⟩
   cases j' with
   | zero=>
    simp at hj'
    subst hj'
    exact hx (by simpa using hd)
   | succ j'=>exact h5 j' o' (by simpa using hj') (by rw [show k+1+j'=k+(j'+1) from by omega]; exact hd) (by omega)
  split at h
  ·rename_i hd
   exact rest h (fun e=>by rw [hd] at e; cases e)
  ·rename_i hd
   split at h
   ·rename_i d hd1
    split at h
    ·rename_i e
     subst e
     split at h
     ·rename_i y hy
      split at h
      ·rename_i hu
       cases h
       obtain ⟨_,_,_,h3⟩:=allocOf_spec hy
       rw [hd1] at h3
       cases h3
       refine ⟨0,x,rfl,rfl,by simpa using hd,hy,fun j' o' hj' hd' hne=>?_⟩
       obtain ⟨j2,rfl⟩:∃ j2,j'=j2+1:=⟨j'-1,by omega⟩
       exact unwritten_spec hu j2 o' (by simpa using hj') (by rw [show k+1+j2=k+(j2+1) from by omega]; exact hd')
      ·cases h
     ·cases h
    ·rename_i hne
     exact rest h (fun _=>by rw [hd1]; simpa using hne)
   ·rename_i hd1
    exact rest h (fun _=>by rw [hd1]; simp)
theorem isNilS_spec {s:SV A} (h:isNilS s=true):s = .val (.slice none 0 0):=by
 unfold isNilS at h
 split at h
 ·rfl
 ·cases h
/-- What is quiet now stays so. -/
theorem quietNow_ok {ops:Array Oper} {listed:Array Bool} {late:Bool} {done:List Nat} (hsz:listed.size=ops.size) (hsub:∀ k,k<ops.size→listed.getD k true=false→inL k done=false) (hlate:late=false→∀ k,k<ops.size→inL k done=false→listed.getD k true=false)
  (h:Rel E O ts sh env a w) (b:Nat):QOK E ops listed a (fun j=>match ops[j]? with | some oj=>quietNow E ops.toList late done ts oj | none=>true,b):=by
 have _:=hsz
 intro j oj hj hl hq
 simp only [hj] at hq
 unfold quietNow at hq
 have free:∀ t,unwritten done t 0 ops.toList=true→FreeT ops listed t:=fun t ht k ok hk hkl=>by
  have hkl':k<ops.size:=(Array.getElem?_eq_some_iff.1 hk).1
  exact unwritten_spec ht k ok (by rw [Array.getElem?_toList]; exact hk) (by rw [Nat.zero_add]; exact hsub k hkl' hkl)
 split at hq
 ·rename_i h1; exact .inl h1
 split at hq
 case isFalse=>cases hq
 split at hq
 ·rename_i t x y ho
  split at hq
  ·cases hq
  rename_i hlt
  split at hq
  case h_2=>cases hq
  rename_i x
  split at hq
  case h_2=>cases hq
  rename_i s hs
  split at hq
  case h_2=>cases hq
  rename_i k hk
  obtain ⟨k',ok,h1,h2,h3,h4,h5⟩:=newAt_spec hk
  have hkk:k=k':=by omega
  subst hkk
  rw [Array.getElem?_toList] at h2
  have hkl:k<ops.size:=(Array.getElem?_eq_some_iff.1 h2).1
  obtain ⟨e,he,hb,hon⟩:=directly_spec hq
  rw [nth_eq] at hs
  refine .inr (.inr ⟨t,x,y,ho,.inl ⟨by rw [h.tsz]; exact (List.getElem?_eq_some_iff.1 hs).1,k,ok,e,h2,hlate (by simpa using hlt) k hkl h3,h4,Array.mem_toList_iff.1 he,hb,hon,fun k' ok' hk' hl' hne=>?_⟩⟩)
  have hkl':k'<ops.size:=(Array.getElem?_eq_some_iff.1 hk').1
  exact h5 k' ok' (by rw [Array.getElem?_toList]; exact hk') (by rw [Nat.zero_add]; exact hsub k' hkl' hl') hne
 ·rename_i c ho
  split at hq
  case h_2=>cases hq
  rename_i hc
  split at hq
  case h_2=>cases hq
  rename_i x l har
  unfold nilNow at hq
  split at hq
  ·rename_i t
   split at hq
   case h_2=>cases hq
   rename_i s hs
   split at hq
   case isFalse=>cases hq
   rename_i hn
   have:=isNilS_spec hn
   subst this
   rw [nth_eq] at hs
   obtain ⟨v,hv,hr⟩:=h.tmps t _ hs
   refine .inr (.inl ⟨c,.tmp t,l,ho,hc,har,?_,fun t' e=>by cases e; exact free t hq⟩)
   simp only [Act.eval,Array.getD_eq_getD_getElem?,hv,Option.getD_some]
   exact hr.inv_val
  ·exact .inr (.inl ⟨c,_,l,ho,hc,har,rfl,fun t e=>by cases e⟩)
  ·cases hq
 ·cases hq
end
end Go.Eng

/-! The engine is right: new variables that come up late. Conditions: none. -/
namespace Go.Eng
open Go
variable {A:Nat→Type}
theorem allP_spec {done:List Nat} {f:Nat→Oper→Bool}:∀ {l:List Oper} {k:Nat},allP done f k l=true→∀ (j:Nat) o,l[j]?=some o→inL (k+j) done=false→f (k+j) o=true
 | [],_,_,j,o,h,_=>by simp at h
 | x::l,k,h,j,o,hj,hd=>by
  simp only [allP] at h
  have rest:allP done f (k+1) l=true→j≠0→f (k+j) o=true:=by
   intro h hj0
   obtain ⟨j',rfl⟩:∃ j',j=j'+1:=⟨j-1,by omega⟩
   have:=allP_spec h j' o (by simpa using hj) (by rw [show k+1+j'=k+(j'+1) from by omega]; exact hd)
   rwa [show k+1+j'=k+(j'+1) from by omega] at this
  by_cases hj0:j=0
  ·subst hj0
   simp at hj
   subst hj
   rw [Nat.add_zero] at hd ⊢
   rw [if_neg (by simp [hd])] at h
   split at h
   ·assumption
   ·cases h
  ·refine rest ?_ hj0
   split at h
   ·exact h
   ·split at h
    ·exact h
    ·cases h
theorem directly_of {i:Nat}:∀ {l:List Edge} {e:Edge},e∈l→Region.binds .any e=true→e.on=i→directly i l=true
 | x::l,e,he,hb,hon=>by
  simp only [directly]
  rcases List.mem_cons.1 he with h | h
  ·subst h
   rw [if_pos hb,if_pos hon]
  ·have:=directly_of h hb hon
   split
   ·split
    ·rfl
    ·exact this
   ·exact this
theorem nodup_uniq {α β:Type} {f:α→β}:∀ {D:List α},(D.map f).Nodup→∀ {p q:α},p∈D→q∈D→f q=f p→q=p
 | x::l,hnd,p,q,hp,hq,e=>by
  rw [List.map_cons,List.nodup_cons] at hnd
  rcases List.mem_cons.1 hq with h1 | h1<;>rcases List.mem_cons.1 hp with h2 | h2
  ·rw [h1,h2]
  ·subst h1; exact (hnd.1 (List.mem_map.2 ⟨p,h2,e.symm⟩)).elim
  ·subst h2; exact (hnd.1 (List.mem_map.2 ⟨q,h1,e⟩)).elim
  ·exact nodup_uniq hnd.2 h2 h1 e
def aside (O:Nat→Prop) (D:List (Nat×Nat)):Nat→Prop:=fun b=>O b∨∃ p∈D,p.2=b
theorem aside_nil {O:Nat→Prop}:aside O []=O:=by
 funext b
 simp [aside]
/-- New variables that are there, and of which nobody speaks yet. -/
structure Held (E:Eng A) (O:Nat→Prop) (ops:Array Oper) (done:List Nat) (sz:Nat) (D:List (Nat×Nat)) (a:Act) (w:World):Prop where
 nd:(D.map Prod.fst).Nodup
 nb:(D.map Prod.snd).Nodup
 ent:∀ p∈D,∃ (o:Oper) (t:TypeId) (d:Nat) (i:TypeInfo) (z:Value),ops[p.1]?=some o∧o.op = .alloc t∧o.guard=none∧o.dst=some d∧a.tmps[d]?=some (.pointer (some ⟨p.2,0,none⟩)) ∧
  E.P.info? t=some i∧i.zero=some z∧w.heap[p.2]?=some (.cells z.cells t (0,0))∧¬O p.2∧sz≤p.2∧inL p.1 done=false∧isReady done o o.after.toList=true
section
variable {E:Eng A} {O:Nat→Prop} {ts:List (SV A)} {sh:List (SO A)} {env:List Wit} {a:Act} {w:World} {o:Oper} {ops:Array Oper} {done:List Nat} {D:List (Nat×Nat)} {sz:Nat}
theorem lateAt_spec (h:lateAt E ops.toList done ts=true) {i:Nat} {oi:Oper} {t:TypeId} (hi:ops[i]?=some oi) (hd:inL i done=false) (ho:oi.op = .alloc t) :
  (∃ cs,tyZero (A:=A) E.P t=some cs)∧∃ d,allocOf oi=some d∧ts[d]?=some .junk∧∀ (j:Nat) oj,ops[j]?=some oj→inL j done=false→j≠i→oj.dst≠some d ∧
   (∀ e∈oj.after,Region.binds .any e=true→e.on=i→∀ k,k<ops.size→inL k done=false→k≠i→k≠j→Waits ops i k∨Waits ops k j):=by
 have h1:=allP_spec h i oi (by rw [Array.getElem?_toList]; exact hi) (by rw [Nat.zero_add]; exact hd)
 rw [Nat.zero_add,ho] at h1
 simp only at h1
 split at h1
 case h_2=>cases h1
 rename_i cs hz
 split at h1
 case h_2=>cases h1
 rename_i d ha
 split at h1
 case isFalse=>cases h1
 rename_i hj
 refine ⟨⟨cs,hz⟩,d,ha,?_,fun j oj hoj hjd hne=>?_⟩
 ·unfold junkAt at hj
  rw [nth_eq] at hj
  split at hj
  ·assumption
  ·cases hj
 ·have h2:=allP_spec h1 j oj (by rw [Array.getElem?_toList]; exact hoj) (by rw [Nat.zero_add]; exact hjd)
  rw [Nat.zero_add,if_neg hne] at h2
  split at h2
  ·cases h2
  rename_i hds
  refine ⟨fun e=>hds ?_,fun e he hb hon k hk hkd hki hkj=>?_⟩
  ·unfold dstIs
   rw [e]
   simp
  ·rw [if_pos (directly_of (Array.mem_toList_iff.2 he) hb hon)] at h2
   have hk':ops.toList[k]?=some ops[k]:=by rw [Array.getElem?_toList]; exact Array.getElem?_eq_getElem hk
   have h3:=allP_spec h2 k _ hk' (by rw [Nat.zero_add]; exact hkd)
   rw [Nat.zero_add,if_neg hki,if_neg hkj] at h3
   split at h3
   ·rename_i h4; exact .inl (waits_spec h4)
   ·exact .inr (waits_spec h3)
theorem inL_DD {k:Nat}:inL k (D.map Prod.fst++done)=true↔(∃ p∈D,p.1=k)∨inL k done=true:=by
 rw [inL_iff,List.mem_append,List.mem_map,inL_iff]
theorem inL_DD_false {k:Nat}:inL k (D.map Prod.fst++done)=false↔(∀ p∈D,p.1≠k)∧inL k done=false:=by
 rw [← Bool.not_eq_true,inL_DD]
 constructor
 ·intro h
  exact ⟨fun p hp e=>h (.inl ⟨p,hp,e⟩),by cases hk:inL k done with
   | true=>exact (h (.inr hk)).elim
   | false=>rfl⟩
 ·rintro ⟨h1,h2⟩ (⟨p,hp,e⟩ | h3)
  ·exact h1 p hp e
  ·rw [h2] at h3; cases h3
theorem DR.congr {l l':List Nat} {listed:Array Bool} (h:DR ops l listed) (hl:∀ k,k∈l↔k∈l'):DR ops l' listed:=by
 refine ⟨h.size,fun k hk=>?_,fun k hk=>h.lt k ((hl k).2 hk)⟩
 rw [h.get k hk]
 have:inL k l=inL k l':=by
  rw [Bool.eq_iff_iff,inL_iff,inL_iff]
  exact hl k
 rw [this]
/-- What is ready in memory is ready in the text, where the new variables alone are behind. -/
theorem ready_done {listedS listed:Array Bool} (dS:DR ops done listedS) (cS:DC ops listedS) (dr:DR ops (D.map Prod.fst++done) listed) (dc:DC ops listed) (hla:lateAt E ops.toList done ts=true) (hh:Held E O ops done sz D a w)
  {r:Nat} (hr:r∈Region.ready .any ops listedS) (hrD:∀ p∈D,p.1≠r) {j:Nat} (hj:j∈Region.ready .any ops listed):j∈Region.ready .any ops listedS:=by
 obtain ⟨hjl,oj,hoj,hall⟩:=mem_ready.1 hj
 have hjs:j<ops.size:=(Array.getElem?_eq_some_iff.1 hoj).1
 rw [dr.getD j hjs true] at hjl
 obtain ⟨hjD,hjd⟩:=inL_DD_false.1 hjl
 refine mem_ready.2 ⟨by rw [dS.getD j hjs true]; exact hjd,oj,hoj,fun e he hb=>?_⟩
 have h1:=hall e he hb
 have hes:e.on<ops.size:=by
  refine Decidable.by_contra fun hc=>?_
  rw [dr.out e.on hc] at h1; cases h1
 rw [dr.getD e.on hes,inL_DD] at h1
 rw [dS.getD e.on hes]
 rcases h1 with ⟨p,hp,hpe⟩ | h1
 case inr=>exact h1
 exfalso
 obtain ⟨o,t,d,i,z,h2,h3,h4,h5,_,_,_,_,_,_,h6,_⟩:=hh.ent p hp
 obtain ⟨_,d',h7,_,h8⟩:=lateAt_spec hla h2 h6 h3
 obtain ⟨hru,orr,hor,hrall⟩:=mem_ready.1 hr
 have hrs:r<ops.size:=(Array.getElem?_eq_some_iff.1 hor).1
 rw [dS.getD r hrs true] at hru
 by_cases hrj:r=j
 ·subst hrj
  rw [hoj] at hor
  cases hor
  have:=hrall e he hb
  rw [dS.getD e.on hes,← hpe,h6] at this
  cases this
 ·rcases (h8 j oj hoj hjd (fun e1=>hjD p hp e1.symm)).2 e he hb hpe.symm r hrs hru (fun e1=>hrD p hp e1.symm) hrj with h9 | h9
  ·have:=waits_ready cS h9 hr
   rw [dS.getD p.1 (Array.getElem?_eq_some_iff.1 h2).1,h6] at this
   cases this
  ·have:=waits_ready dc h9 hj
   rw [dr.getD r hrs,inL_DD] at this
   rcases this with ⟨q,hq,hqr⟩ | this
   ·exact hrD q hq hqr
   ·rw [hru] at this; cases this
theorem isReady_more {o:Oper} {l:List Edge} (h:isReady done o l=true) (i:Nat):isReady (i::done) o l=true:=by
 rw [isReady_iff] at h ⊢
 intro e he hb
 have:=h e he hb
 rw [inL_iff] at this ⊢
 exact List.mem_cons_of_mem _ this
/-- One more is there. -/
theorem Held.push (h:Held E O ops done sz D a w) (hr:Rel E (aside O D) ts sh env a w) {j:Nat} {t:TypeId} {d:Nat} {i:TypeInfo} {z:Value} (ho:ops[j]?=some o) (hop:o.op = .alloc t) (hg:o.guard=none) (hdst:o.dst=some d)
  (hi:E.P.info? t=some i) (hz:i.zero=some z) (hjd:inL j done=false) (hjr:isReady done o o.after.toList=true) (hjD:∀ p∈D,p.1≠j) (hsz:sz≤w.heap.size) (hjunk:ts[d]?=some .junk)
  (hdist:∀ p∈D,∀ o',ops[p.1]?=some o'→o'.dst≠some d) :
  Held E O ops done sz ((j,w.heap.size)::D) (a.put (some d) (.pointer (some ⟨w.heap.size,0,none⟩))) (w.alloc (.cells z.cells t)) ∧
  Rel E (aside O ((j,w.heap.size)::D)) ts sh env (a.put (some d) (.pointer (some ⟨w.heap.size,0,none⟩))) (w.alloc (.cells z.cells t)):=by
 have hlt:∀ p∈D,p.2<w.heap.size:=fun p hp=>hr.heap.olt p.2 (.inr ⟨p,hp,rfl⟩)
 refine ⟨⟨?_,?_,fun p hp=>?_⟩,?_⟩
 ·rw [List.map_cons,List.nodup_cons]
  refine ⟨fun hm=>?_,h.nd⟩
  obtain ⟨p,hp,e⟩:=List.mem_map.1 hm
  exact hjD p hp e
 ·rw [List.map_cons,List.nodup_cons]
  refine ⟨fun hm=>?_,h.nb⟩
  obtain ⟨p,hp,e⟩:=List.mem_map.1 hm
  have:=hlt p hp
  simp only at e
  omega
 ·rcases List.mem_cons.1 hp with e | hp
  ·subst e
   have hl:d<a.tmps.size:=by rw [hr.tsz]; exact (List.getElem?_eq_some_iff.1 hjunk).1
   refine ⟨o,t,d,i,z,ho,hop,hg,hdst,?_,hi,hz,heap_alloc_new w _,fun hO=>?_,hsz,hjd,hjr⟩
   ·simp only [Act.put]
    rw [Array.getElem?_setIfInBounds_self_of_lt hl]
   ·have:=hr.heap.olt _ (.inl hO)
    simp only at this
    omega
  ·obtain ⟨o',t',d',i',z',h1,h2,h3,h4,h5,h6,h7,h8,h9,h10,h11,h12⟩:=h.ent p hp
   refine ⟨o',t',d',i',z',h1,h2,h3,h4,?_,h6,h7,(heap_alloc_old w _ (hlt p hp)).trans h8,h9,h10,h11,h12⟩
   have hne:d≠d':=fun e=>hdist p hp o' h1 (by rw [e]; exact h4)
   simp only [Act.put]
   rw [Array.getElem?_setIfInBounds_ne hne]
   exact h5
 ·have:=hr.aside hjunk (.pointer (some ⟨w.heap.size,0,none⟩)) (.cells z.cells t)
  have e:(fun b=>aside O D b∨b=w.heap.size)=aside O ((j,w.heap.size)::D):=by
   funext b
   simp only [aside,List.mem_cons,eq_iff_iff]
   constructor
   ·rintro ((h1 | ⟨p,hp,h1⟩) | h1)
    ·exact .inl h1
    ·exact .inr ⟨p,.inr hp,h1⟩
    ·exact .inr ⟨_,.inl rfl,h1.symm⟩
   ·rintro (h1 | ⟨p,hp | hp,h1⟩)
    ·exact .inl (.inl h1)
    ·subst hp; exact .inr h1.symm
    ·exact .inl (.inr ⟨p,hp,h1⟩)
  rw [← e]
  exact this
/-- Others come up. -/
theorem Held.keep (h:Held E O ops done sz D a w) (hr:Rel E (aside O D) ts sh env a w) {env':List Wit} {w':World} (hs:Step env w env' w') {dst:Option Tmp} {v:Value} (hd:∀ p∈D,∀ o',ops[p.1]?=some o'→∀ d,o'.dst=some d→dst≠some d) {i:Nat} (hi:∀ p∈D,p.1≠i) :
  Held E O ops (i::done) sz D (a.put dst v) w':=by
 refine ⟨h.nd,h.nb,fun p hp=>?_⟩
 obtain ⟨o',t',d',i',z',h1,h2,h3,h4,h5,h6,h7,h8,h9,h10,h11,h12⟩:=h.ent p hp
 have hO:aside O D p.2 := .inr ⟨p,hp,rfl⟩
 refine ⟨o',t',d',i',z',h1,h2,h3,h4,?_,h6,h7,(hs.cells p.2 (hr.heap.olt _ hO) (fun h=>hr.heap.out _ h hO)).trans h8,h9,h10,?_,isReady_more h12 i⟩
 ·have:=hd p hp o' h1 d' h4
  cases dst with
  | none=>exact h5
  | some d=>
   have hne:d≠d':=fun e=>this (by rw [e])
   simp only [Act.put]
   rw [Array.getElem?_setIfInBounds_ne hne]
   exact h5
 ·simp [inL,hi p hp,h11]
/-- One is spoken of. -/
theorem Held.pop (h:Held E O ops done sz D a w) (hr:Rel E (aside O D) ts sh env a w) {p:Nat×Nat} (hp:p∈D) {t:TypeId} {cs:SL A} {d:Nat} (ho:ops[p.1]?=some o) (hop:o.op = .alloc t) (hdst:o.dst=some d) (hz:tyZero (A:=A) E.P t=some cs) :
  Held E O ops (p.1::done) sz (D.filter fun q=>q.1 != p.1) a w∧Rel E (aside O (D.filter fun q=>q.1 != p.1)) (setDst ts (some d) (.ptr (cnt sh) 0)) (snoc sh (.cells t cs)) (env++[.blk p.2]) a w:=by
 have huniq:∀ q∈D,q.1=p.1→q=p:=fun q hq e=>nodup_uniq h.nd hp hq e
 have huniqb:∀ q∈D,q.2=p.2→q=p:=fun q hq e=>nodup_uniq h.nb hp hq e
 have hmem:∀ q,q∈D.filter (fun q=>q.1 != p.1)↔q∈D∧q.1≠p.1:=fun q=>by simp
 obtain ⟨o',t',d',i',z',h1,h2,h3,h4,h5,h6,h7,h8,h9,h10,h11,h12⟩:=h.ent p hp
 rw [ho] at h1
 cases h1
 rw [hop] at h2
 cases h2
 rw [hdst] at h4
 cases h4
 obtain ⟨i,z,hi,hiz,hrr⟩:=tyZero_spec hz
 rw [h6] at hi
 cases hi
 rw [h7] at hiz
 cases hiz
 refine ⟨⟨?_,?_,fun q hq=>?_⟩,?_⟩
 ·exact List.Pairwise.sublist (List.Sublist.map _ List.filter_sublist) h.nd
 ·exact List.Pairwise.sublist (List.Sublist.map _ List.filter_sublist) h.nb
 ·obtain ⟨hq,hne⟩:=(hmem q).1 hq
  obtain ⟨o',t',d',i',z',h1,h2,h3,h4,h5,h6,h7,h8,h9,h10,h11,h12⟩:=h.ent q hq
  exact ⟨o',t',d',i',z',h1,h2,h3,h4,h5,h6,h7,h8,h9,h10,by simp [inL,hne,h11],isReady_more h12 _⟩
 ·refine hr.take (O':=aside O (D.filter fun q=>q.1 != p.1)) (g:=p.2) (fun b=>?_) (fun hb=>?_) h8 (fun O env=>hrr O env w E.C) h5
  ·constructor
   ·rintro (h1 | ⟨q,hq,h1⟩)
    ·exact .inl (.inl h1)
    ·by_cases e:q.1=p.1
     ·rw [huniq q hq e] at h1
      exact .inr h1.symm
     ·exact .inl (.inr ⟨q,(hmem q).2 ⟨hq,e⟩,h1⟩)
   ·rintro ((h1 | ⟨q,hq,h1⟩) | h1)
    ·exact .inl h1
    ·exact .inr ⟨q,((hmem q).1 hq).1,h1⟩
    ·exact .inr ⟨p,hp,h1.symm⟩
  ·rcases hb with hb | ⟨q,hq,e⟩
   ·exact h9 hb
   ·obtain ⟨hq,hne⟩:=(hmem q).1 hq
    exact hne (by rw [huniqb q hq e])
end
end Go.Eng

/-! The engine is right: regions whose order is open. Conditions: none. -/
namespace Go.Eng
open Go
variable {A:Nat→Type}
/-- Where the drawing of a region stands. -/
structure DI (E:Eng A) (O:Nat→Prop) (ops:Array Oper) (env0:List Wit) (w0:World) (late:Bool) (done:List Nat) (D:List (Nat×Nat)) (listedS listed:Array Bool) (ts:List (SV A)) (sh:List (SO A)) (n:Nat) (env:List Wit) (a:Act) (w:World)
  (L:List ((Nat→Bool)×Nat)) (un:List Nat) (g:Nat):Prop where
 dS:DR ops done listedS
 cS:DC ops listedS
 dr:DR ops (D.map Prod.fst++done) listed
 dc:DC ops listed
 wf:WF ts n
 rel:Rel E (aside O D) ts sh env a w
 st:Step env0 w0 env w
 held:Held E O ops done w0.heap.size D a w
 late:late=false→D=[]
 nu:D≠[]→E.nu=true
 q:∀ p∈L,p.2≤w.heap.size∧QOK E ops listed a p
 uns:∀ k,k<ops.size→inL k (D.map Prod.fst++done)=false→k∈un
 g:un.length≤g
theorem mem_noAllocs {ops:List Oper} {k:Nat}:∀ {l:List Nat},k∈noAllocs ops l↔k∈l∧allocAt ops k=false
 | []=>by simp [noAllocs]
 | i::l=>by
  simp only [noAllocs]
  split
  ·rename_i h
   rw [mem_noAllocs (l:=l)]
   constructor
   ·rintro ⟨h1,h2⟩; exact ⟨List.mem_cons_of_mem _ h1,h2⟩
   ·rintro ⟨h1,h2⟩
    rcases List.mem_cons.1 h1 with e | h1
    ·subst e; rw [h] at h2; cases h2
    ·exact ⟨h1,h2⟩
  ·rename_i h
   rw [List.mem_cons,mem_noAllocs (l:=l),List.mem_cons]
   constructor
   ·rintro (e | ⟨h1,h2⟩)
    ·subst e; exact ⟨.inl rfl,by simpa using h⟩
    ·exact ⟨.inr h1,h2⟩
   ·rintro ⟨e | h1,h2⟩
    ·exact .inl e
    ·exact .inr ⟨h1,h2⟩
theorem someAlloc_no {ops:List Oper} {k:Nat}:∀ {l:List Nat},someAlloc ops l=false→k∈l→allocAt ops k=false
 | i::l,h,hk=>by
  simp only [someAlloc] at h
  split at h
  ·cases h
  ·rename_i hi
   rcases List.mem_cons.1 hk with e | hk
   ·subst e; simpa using hi
   ·exact someAlloc_no h hk
theorem allocAt_eq {ops:Array Oper} {k:Nat} {o:Oper} (h:ops[k]?=some o):allocAt ops.toList k=isAlloc o.op:=by
 unfold allocAt
 rw [nth_eq,Array.getElem?_toList,h]
theorem isAlloc_spec {op:Op} (h:isAlloc op=true):∃ t,op = .alloc t:=by
 unfold isAlloc at h
 split at h
 ·exact ⟨_,rfl⟩
 ·cases h
section
variable {E:Eng A} {O:Nat→Prop} {ops:Array Oper} {env0:List Wit} {w0:World} {late:Bool} {done:List Nat} {D:List (Nat×Nat)} {listedS listed:Array Bool} {ts:List (SV A)} {sh:List (SO A)} {n:Nat} {env:List Wit} {a:Act} {w:World} {L:List ((Nat→Bool)×Nat)} {un:List Nat} {g:Nat}
theorem picks_spec {rs qs:List Nat} {late':Bool} (h:picks E ops.toList late done ts rs=some (late',qs)) :
  (qs=rs∧(E.nu=true→someAlloc ops.toList rs=false))∨(qs=rs∧late=false) ∨
  (E.nu=true∧late'=true∧lateAt E ops.toList done ts=true∧((noAllocs ops.toList rs=[]∧∃ i r,rs=i::r∧qs=[i])∨(noAllocs ops.toList rs≠[]∧qs=noAllocs ops.toList rs))):=by
 unfold picks at h
 split at h
 ·rename_i hnu
  split at h
  ·split at h
   ·rename_i hla
    split at h
    ·rename_i hna
     split at h
     ·cases h
     ·cases h
      exact .inr (.inr ⟨hnu,rfl,hla,.inl ⟨hna,_,_,rfl,rfl⟩⟩)
    ·rename_i hna
     cases h
     exact .inr (.inr ⟨hnu,rfl,hla,.inr ⟨hna,rfl⟩⟩)
   ·split at h
    ·cases h
    ·rename_i hl
     cases h
     exact .inr (.inl ⟨rfl,by simpa using hl⟩)
  ·rename_i hsa
   cases h
   exact .inl ⟨rfl,fun _=>by simpa using hsa⟩
 ·rename_i hnu
  cases h
  exact .inl ⟨rfl,fun e=>(hnu e).elim⟩
theorem DI.ready_sub (h:DI E O ops env0 w0 late done D listedS listed ts sh n env a w L un g) {i:Nat} (hi:i∈Region.ready .any ops listedS) (hD:∀ p∈D,p.1≠i):i∈Region.ready .any ops listed:=by
 obtain ⟨h1,o,ho,h2⟩:=mem_ready.1 hi
 have hs:i<ops.size:=(Array.getElem?_eq_some_iff.1 ho).1
 rw [h.dS.getD i hs true] at h1
 refine mem_ready.2 ⟨by rw [h.dr.getD i hs true]; exact inL_DD_false.2 ⟨hD,h1⟩,o,ho,fun e he hb=>?_⟩
 have h3:=h2 e he hb
 by_cases hes:e.on<ops.size
 ·rw [h.dS.getD e.on hes] at h3
  rw [h.dr.getD e.on hes]
  exact inL_DD.2 (.inr h3)
 ·rw [h.dS.out e.on hes] at h3; cases h3
theorem filter_lt {i:Nat}:∀ {l:List Nat},i∈l→(l.filter (· != i)).length<l.length
 | x::l,h=>by
  rw [List.filter_cons]
  by_cases e:x=i
  ·subst e
   simp only [bne_self_eq_false,Bool.false_eq_true,if_false,List.length_cons]
   have:=List.length_filter_le (fun y=>y != x) l
   omega
  ·rcases List.mem_cons.1 h with h1 | h1
   ·exact (e h1.symm).elim
   ·have:=filter_lt h1
    rw [if_pos (by simpa using e)]
    simp only [List.length_cons]
    omega
theorem DI.pos (h:DI E O ops env0 w0 late done D listedS listed ts sh n env a w L un g) {i:Nat} (hi:i∈Region.ready .any ops listed):∃ g',g=g'+1∧(un.filter (· != i)).length≤g':=by
 obtain ⟨h1,o,ho,_⟩:=mem_ready.1 hi
 have hs:i<ops.size:=(Array.getElem?_eq_some_iff.1 ho).1
 rw [h.dr.getD i hs true] at h1
 have h2:=filter_lt (h.uns i hs h1)
 have h3:=h.g
 exact ⟨g-1,by omega,by omega⟩
/-- One operation has come up. -/
theorem DI.exec (h:DI E O ops env0 w0 late done D listedS listed ts sh n env a w L un g) {i:Nat} {o:Oper} (ho:ops[i]?=some o) (hrS:i∈Region.ready .any ops listedS) (hr:i∈Region.ready .any ops listed) {late':Bool} (hl:late'=false→D=[])
  {ts':List (SV A)} {sh':List (SO A)} {n':Nat} {env':List Wit} {v:Value} {w':World} (hw:WF ts' n') (hrel:Rel E (aside O D) ts' sh' env' (a.put o.dst v) w') (hs:Step env w env' w')
  (hv:∀ t,allocOf o=some t→∃ ad:Addr,v = .pointer (some ad)∧w.heap.size≤ad.block) (hd:∀ p∈D,∀ o',ops[p.1]?=some o'→∀ d,o'.dst=some d→o.dst≠some d) {g':Nat} (hg:(un.filter (· != i)).length≤g') :
  DI E O ops env0 w0 late' (i::done) D (listedS.setIfInBounds i true) (listed.setIfInBounds i true) ts' sh' n' env' (a.put o.dst v) w' L (un.filter (· != i)) g':=by
 have hil:i<ops.size:=(Array.getElem?_eq_some_iff.1 ho).1
 have hiD:∀ p∈D,p.1≠i:=by
  have h1:=(mem_ready.1 hr).1
  rw [h.dr.getD i hil true] at h1
  exact (inL_DD_false.1 h1).1
 refine ⟨h.dS.set i hil,h.cS.set hrS,(h.dr.set i hil).congr (fun k=>by simp only [List.mem_cons,List.mem_append]; constructor<;>(intro h; rcases h with h | h | h<;>simp [h])),h.dc.set hr,hw,hrel,h.st.trans hs,h.held.keep h.rel hs hd hiD,hl,h.nu,fun p hp=>?_,fun k hk hkd=>?_,hg⟩
 ·obtain ⟨h1,h2⟩:=h.q p hp
  refine ⟨Nat.le_trans h1 hs.size,h2.put ho (mem_ready.1 hr).1 fun t ht=>?_⟩
  obtain ⟨ad,h3,h4⟩:=hv t ht
  exact ⟨ad,h3,by omega⟩
 ·obtain ⟨h1,h2⟩:=inL_DD_false.1 hkd
  have h3:k≠i:=fun e=>by
   subst e
   simp [inL] at h2
  have h4:inL k done=false:=by
   simpa [inL,h3] using h2
  exact List.mem_filter.2 ⟨h.uns k hk (inL_DD_false.2 ⟨h1,h4⟩),by simpa using h3⟩
/-- A new variable has come up, and nobody speaks of it. -/
theorem DI.push (h:DI E O ops env0 w0 true done D listedS listed ts sh n env a w L un g) (hnu:E.nu=true) (hla:lateAt E ops.toList done ts=true) {j:Nat} {o:Oper} {t:TypeId} (ho:ops[j]?=some o) (hop:o.op = .alloc t)
  (hrS:j∈Region.ready .any ops listedS) (hr:j∈Region.ready .any ops listed) {g':Nat} (hg:(un.filter (· != j)).length≤g') :
  ∃ (i:TypeInfo) (z:Value) (d:Nat),E.P.info? t=some i∧i.zero=some z∧o.guard=none∧o.dst=some d ∧
  DI E O ops env0 w0 true done ((j,w.heap.size)::D) listedS (listed.setIfInBounds j true) ts sh n env (a.put (some d) (.pointer (some ⟨w.heap.size,0,none⟩))) (w.alloc (.cells z.cells t)) L (un.filter (· != j)) g':=by
 have hjl:j<ops.size:=(Array.getElem?_eq_some_iff.1 ho).1
 have hjd:inL j done=false:=by
  have h1:=(mem_ready.1 hrS).1
  rwa [h.dS.getD j hjl true] at h1
 have hjD:∀ p∈D,p.1≠j:=by
  have h1:=(mem_ready.1 hr).1
  rw [h.dr.getD j hjl true] at h1
  exact (inL_DD_false.1 h1).1
 have hjr:isReady done o o.after.toList=true:=by
  obtain ⟨j',o',h1,h2,_,h4⟩:=mem_readyFrom.1 ((ready_iff h.dS).1 hrS)
  have:j'=j:=by omega
  subst this
  rw [Array.getElem?_toList,ho] at h2
  cases h2
  exact h4
 obtain ⟨⟨cs,hz⟩,d,hal,hjunk,hrest⟩:=lateAt_spec hla ho hjd hop
 obtain ⟨_,_,hgd,hdst⟩:=allocOf_spec hal
 obtain ⟨i,z,hi,hiz,_⟩:=tyZero_spec hz
 have hdist:∀ p∈D,∀ o',ops[p.1]?=some o'→o'.dst≠some d:=fun p hp o' ho'=>by
  obtain ⟨o2,_,_,_,_,h1,_,_,_,_,_,_,_,_,_,h11,_⟩:=h.held.ent p hp
  exact (hrest p.1 o' ho' h11 (hjD p hp)).1
 obtain ⟨hheld,hrel⟩:=h.held.push h.rel ho hop hgd hdst hi hiz hjd hjr hjD h.st.size hjunk hdist
 have hst:Step env w env (w.alloc (.cells z.cells t)):=
  ⟨rfl,rfl,rfl,by simp,Nat.le_refl _,fun _ x h=>⟨x,h,.refl x⟩,fun _ h => .inl h,fun b hb _=>heap_alloc_old w _ hb⟩
 refine ⟨i,z,d,hi,hiz,hgd,hdst,h.dS,h.cS,h.dr.set j hjl,h.dc.set hr,h.wf,hrel,h.st.trans hst,hheld,fun e=>(by cases e),fun _=>hnu,fun p hp=>?_,fun k hk hkd=>?_,hg⟩
 ·obtain ⟨h1,h2⟩:=h.q p hp
  refine ⟨by simp; omega,?_⟩
  rw [← hdst]
  exact h2.put ho (mem_ready.1 hr).1 fun t' _=>⟨_,rfl,h1⟩
 ·have h2:k≠j:=fun e=>by
   subst e
   simp [inL] at hkd
  have h3:inL k (D.map Prod.fst++done)=false:=by
   simp only [List.map_cons,List.cons_append,inL,if_neg h2] at hkd
   exact hkd
  exact List.mem_filter.2 ⟨h.uns k hk h3,by simpa using h2⟩
/-- A region whose order is open, from some of its operations on. -/
theorem draw_sound (hTT:∀ g,Meets E.P E.C E.GL (E.qf g) g (E.TT g)) (hsel:noSel ops.toList=true) {Q:Exit→Act→World→Prop} (hQ:∀ c a w,¬Q (.panic c) a w) {K:List (SV A)→List (SO A)→Nat→Prop} :
  ∀ (f:Nat) {late:Bool} {done:List Nat} {D:List (Nat×Nat)} {listedS listed:Array Bool} {ts:List (SV A)} {sh:List (SO A)} {n:Nat} {env:List Wit} {a:Act} {w:World} {L:List ((Nat→Bool)×Nat)} {un:List Nat} {g:Nat},
  DI E O ops env0 w0 late done D listedS listed ts sh n env a w L un g→drawS E ops.toList f late done ts sh n K →
  (∀ ts' sh' n' env' a' w',WF ts' n'→Rel E O ts' sh' env' a' w'→Step env0 w0 env' w'→Same (dsts ops.toList) a a'→K ts' sh' n'→Q .normal a' w')→wpAnyO E.P ops Q L g listed a w:=by
 intro f
 induction f with
 | zero=>
  intro late done D listedS listed ts sh n env a w L un g h hk hq
  simp only [drawS] at hk
  split at hk
  case h_2=>exact hk.elim
  rename_i hr
  have hD:D=[]:=by
   cases D with
   | nil=>rfl
   | cons p D=>
    obtain ⟨o,t,d,i,z,h1,_,_,_,_,_,_,_,_,_,h11,h12⟩:=h.held.ent p List.mem_cons_self
    have:p.1∈readyFrom done 0 ops.toList:=mem_readyFrom.2 ⟨p.1,o,by omega,by rw [Array.getElem?_toList]; exact h1,h11,h12⟩
    rw [hr] at this; cases this
  subst hD
  have hre:Region.ready .any ops listed=[]:=List.eq_nil_iff_forall_not_mem.2 fun i hi=>by
   have:=(ready_iff h.dr).1 hi
   simp only [List.map_nil,List.nil_append] at this
   rw [hr] at this; cases this
  have hrel:=h.rel
  rw [aside_nil] at hrel
  have hQn:Q .normal a w:=hq _ _ _ _ _ _ h.wf hrel h.st (Same.refl _ _) hk
  cases g with
  | zero=>exact ⟨hre,hQn⟩
  | succ g=>exact ⟨fun _=>hQn,fun i hi=>by rw [hre] at hi; cases hi⟩
 | succ f ih=>
  intro late done D listedS listed ts sh n env a w L un g h hk hq
  simp only [drawS] at hk
  split at hk
  ·exact hk.elim
  rename_i hrne
  have hDal:∀ {D:List (Nat×Nat)} {a:Act} {w:World},Held E O ops done w0.heap.size D a w→∀ p∈D,∃ o t,ops[p.1]?=some o∧o.op = .alloc t:=fun hh p hp=>by
   obtain ⟨o,t,_,_,_,h1,h2,_⟩:=hh.ent p hp
   exact ⟨o,t,h1,h2⟩
  split at hk
  ·rename_i i hfe
   obtain ⟨h1,o,ho,h2⟩:=firstEarly_spec hfe
   rw [nth_eq,ho] at hk
   simp only at hk
   have hreadyS:=(ready_iff h.dS).2 h1
   rw [Array.getElem?_toList] at ho
   have hi:i<ops.size:=(Array.getElem?_eq_some_iff.1 ho).1
   have hearly:(regOnly E.P o.op=true∨isLoad o.op=true)∧allApart ops.toList done i o 0 ops.toList=true∧(regOnly E.P o.op=false→allWait E ops.toList late done ts i 0 ops.toList=true):=by
    unfold mayFirst at h2
    split at h2
    ·rename_i hr; exact ⟨.inl hr,h2,fun e=>by rw [hr] at e; cases e⟩
    ·split at h2
     ·rename_i hl
      split at h2
      ·rename_i haw; exact ⟨.inr hl,h2,fun _=>haw⟩
      ·cases h2
     ·cases h2
   have hnal:∀ t,o.op ≠ .alloc t:=fun t e=>by
    rw [e] at hearly
    rcases hearly.1 with h3 | h3<;>simp [regOnly,isLoad] at h3
   have hiD:∀ p∈D,p.1≠i:=fun p hp e=>by
    obtain ⟨o',t,h3,h4⟩:=hDal h.held p hp
    rw [e,ho] at h3
    cases h3
    exact hnal t h4
   have hready:=h.ready_sub hreadyS hiD
   obtain ⟨g',rfl,hg'⟩:=h.pos hready
   have hid:inL i done=false:=by
    have:=(mem_ready.1 hreadyS).1
    rwa [h.dS.getD i hi true] at this
   have hsub:∀ k,k<ops.size→listed.getD k true=false→inL k done=false:=fun k hk hl=>by
    rw [h.dr.getD k hk true] at hl
    exact (inL_DD_false.1 hl).2
   obtain ⟨v,ts',n',hy,hw',h',hk'⟩:=early_sound hTT h.wf h.rel hk hearly.1
   have hqn:=quietNow_ok (E:=E) (late:=late) (done:=done) (ts:=ts) h.dr.size hsub (fun hl k hk hkd=>by
    have:=h.late hl
    subst this
    rw [h.dr.getD k hk true]
    exact hkd) h.rel w.heap.size
   have h4:DI E O ops env0 w0 late done D listedS listed ts sh n env a w ((_,w.heap.size)::L) un (g'+1):=⟨h.dS,h.cS,h.dr,h.dc,h.wf,h.rel,h.st,h.held,h.late,h.nu,fun p hp=>by
    rcases List.mem_cons.1 hp with e | hp
    ·subst e; exact ⟨Nat.le_refl _,hqn⟩
    ·exact h.q p hp,h.uns,h.g⟩
   have hdst:∀ p∈D,∀ o',ops[p.1]?=some o'→∀ d,o'.dst=some d→o.dst≠some d:=fun p hp o' ho' d hd hod=>by
    obtain ⟨o2,_,_,_,_,h5,_,_,_,_,_,_,_,_,_,h11,h12⟩:=h.held.ent p hp
    rw [ho'] at h5
    cases h5
    rcases allApart_spec hearly.2.1 p.1 o' (by rw [Array.getElem?_toList]; exact ho') (by rw [Nat.zero_add]; exact h11) (by rw [Nat.zero_add]; exact hiD p hp) with h6 | h6
    ·obtain ⟨e,he,hb,hon⟩:=directly_spec h6
     have:=isReady_iff.1 h12 e he hb
     rw [hon,hid] at this
     cases this
    ·exact (Oper.apart_spec h6).2.1 d hod hd
   have h3:=h4.exec ho hreadyS hready h.late hw' h' (Step.refl _ _) (fun t ht=>by
    obtain ⟨t',h5,_⟩:=allocOf_spec ht
    exact (hnal t' h5).elim) hdst hg'
   have hsame:Same (dsts ops.toList) a (a.put o.dst v):=Same.put a o.dst v (fun t ht=>dsts_mem (Array.mem_toList_iff.2 (Array.mem_of_getElem? ho)) ht)
   have hrec:=ih h3 (go_eq.1 hk') (fun ts2 sh2 n2 env2 a2 w2 hw2 h2 hs2 hsm hk2=>hq _ _ _ _ _ _ hw2 h2 hs2 (hsame.trans hsm) hk2)
   refine wpAnyO_first (lo:=isLoad o.op) ho (fun j o cs b hj=>noSel_spec hsel j o cs b (by rw [Array.getElem?_toList]; exact hj)) hQ g' listed a w h.dc (fun j oj hj hji hun hno=>?_) (fun hlo j oj hj hji hun hq=>?_) hready ?_ hrec
   ·have hjl:j<ops.size:=(Array.getElem?_eq_some_iff.1 hj).1
    have:=allApart_spec hearly.2.1 j oj (by rw [Array.getElem?_toList]; exact hj) (by rw [Nat.zero_add]; exact hsub j hjl hun) (by omega)
    rcases this with h3 | h3
    ·obtain ⟨e,he,hb,hon⟩:=directly_spec h3
     exact absurd hon (hno e (Array.mem_toList_iff.1 he) hb)
    ·simpa using h3
   ·have hjl:j<ops.size:=(Array.getElem?_eq_some_iff.1 hj).1
    have hnr:regOnly E.P o.op=false:=by
     cases hop:o.op<;>rw [hop] at hlo<;>simp [isLoad] at hlo
     simp [regOnly]
    simp only [hj] at hq
    have:=allWait_spec (hearly.2.2 hnr) j oj (by rw [Array.getElem?_toList]; exact hj) (by rw [Nat.zero_add]; exact hsub j hjl hun) (by omega) hq
    rw [Nat.zero_add] at this
    exact waits_spec this
   ·rcases hy with ⟨hw,hv⟩ | hu
    ·exact .inl ⟨hw,fun w'' hw''=>hv w'' (fun hlo=>(hw'' hlo).old)⟩
    ·exact .inr hu
  ·split at hk
   case h_2=>exact hk.elim
   rename_i late' qs hp
   have stepD:∀ {D:List (Nat×Nat)} {listed:Array Bool} {a:Act} {w:World} {un:List Nat} {g g':Nat} {i:Nat} {late:Bool},DI E O ops env0 w0 late done D listedS listed ts sh n env a w L un g→(late'=false→D=[]) →
     (∀ ts' sh' n' env' a' w',WF ts' n'→Rel E O ts' sh' env' a' w'→Step env0 w0 env' w'→Same (dsts ops.toList) a a'→K ts' sh' n'→Q .normal a' w') →
     i∈qs→i∈Region.ready .any ops listedS→i∈Region.ready .any ops listed→(un.filter (· != i)).length≤g' →
     (∀ o,ops[i]?=some o→∀ p∈D,∀ o',ops[p.1]?=some o'→∀ d,o'.dst=some d→o.dst≠some d) →
     wpOp E.P ops Q i (fun a' w'=>(∀ p∈L,p.1 i=true→OldB p.2 w w')∧wpAnyO E.P ops Q L g' (listed.setIfInBounds i true) a' w') a w:=by
    intro D listed a w un g g' i late h hl hq hiq hiS hir hg hd
    have h1:=allOf_spec hk i hiq
    obtain ⟨_,o,ho,_⟩:=mem_ready.1 hir
    rw [nth_eq,Array.getElem?_toList,ho] at h1
    simp only at h1
    have:=step_sound (next:=fun a' w'=>(∀ p∈L,p.1 i=true→OldB p.2 w w')∧wpAnyO E.P ops Q L g' (listed.setIfInBounds i true) a' w') (Q:=Q) hTT h.wf h.rel h1 (fun ts' sh' n' env' v w' hw' h' hs heff hk'=>
     ⟨fun p hp=>(h.q p hp).2.old (h.q p hp).1 ho hir heff,ih (h.exec ho hiS hir hl hw' h' hs heff.new (hd o ho) hg) (go_eq.1 hk') (fun ts2 sh2 n2 env2 a2 w2 hw2 h2 hs2 hsm hk2=>
      hq _ _ _ _ _ _ hw2 h2 hs2 ((Same.put a o.dst v (fun t ht=>dsts_mem (Array.mem_toList_iff.2 (Array.mem_of_getElem? ho)) ht)).trans hsm) hk2)⟩)
    unfold wpOp
    rw [ho]
    simp only
    split
    ·rename_i hwnt; rw [if_pos hwnt] at this; exact .inl this
    ·rename_i hwnt; rw [if_neg hwnt] at this; exact this
   have hrne':∃ r,r∈readyFrom done 0 ops.toList:=by
    cases hrs:readyFrom done 0 ops.toList with
    | nil=>exact (hrne hrs).elim
    | cons r l=>exact ⟨r,List.mem_cons_self⟩
   have std:D=[]→qs=readyFrom done 0 ops.toList→wpAnyO E.P ops Q L g listed a w:=by
    intro hD hqs
    subst hD
    obtain ⟨r,hr⟩:=hrne'
    obtain ⟨g',rfl,_⟩:=h.pos ((ready_iff h.dr).2 hr)
    refine ⟨fun he=>?_,fun i hi=>?_⟩
    ·have:=(ready_iff h.dr).2 hr
     rw [he] at this; cases this
    ·have hi2:=(ready_iff h.dr).1 hi
     obtain ⟨g2,hg2,hg3⟩:=h.pos hi
     cases hg2
     exact stepD h (fun _=>rfl) hq (by rw [hqs]; exact hi2) ((ready_iff h.dS).2 hi2) hi hg3 (fun o _ p hp=>by cases hp)
   rcases picks_spec hp with ⟨hqs,hsa⟩ | ⟨hqs,hl⟩ | ⟨hnu,hlt,hla,hcase⟩
   ·refine std ?_ hqs
    cases hD:D with
    | nil=>rfl
    | cons p D'=>
     exfalso
     have hpD:p∈D:=by rw [hD]; exact List.mem_cons_self
     obtain ⟨o,t,d,i,z,h1,h2,_,_,_,_,_,_,_,_,h11,h12⟩:=h.held.ent p hpD
     have hpr:p.1∈readyFrom done 0 ops.toList:=mem_readyFrom.2 ⟨p.1,o,by omega,by rw [Array.getElem?_toList]; exact h1,h11,h12⟩
     have:=someAlloc_no (hsa (h.nu (by rw [hD]; simp))) hpr
     rw [allocAt_eq h1,h2] at this
     cases this
   ·exact std (h.late hl) hqs
   ·subst hlt
    have h0:DI E O ops env0 w0 true done D listedS listed ts sh n env a w L un g:=⟨h.dS,h.cS,h.dr,h.dc,h.wf,h.rel,h.st,h.held,fun e=>(by cases e),h.nu,h.q,h.uns,h.g⟩
    clear h std hrne'
    have inner:∀ (g:Nat) {D:List (Nat×Nat)} {listed:Array Bool} {a:Act} {w:World} {un:List Nat},DI E O ops env0 w0 true done D listedS listed ts sh n env a w L un g →
      (∀ ts' sh' n' env' a' w',WF ts' n'→Rel E O ts' sh' env' a' w'→Step env0 w0 env' w'→Same (dsts ops.toList) a a'→K ts' sh' n'→Q .normal a' w')→wpAnyO E.P ops Q L g listed a w:=by
     have core:∀ (g:Nat),(∀ g',g=g'+1→∀ {D:List (Nat×Nat)} {listed:Array Bool} {a:Act} {w:World} {un:List Nat},DI E O ops env0 w0 true done D listedS listed ts sh n env a w L un g' →
       (∀ ts' sh' n' env' a' w',WF ts' n'→Rel E O ts' sh' env' a' w'→Step env0 w0 env' w'→Same (dsts ops.toList) a a'→K ts' sh' n'→Q .normal a' w')→wpAnyO E.P ops Q L g' listed a w) →
       ∀ {D:List (Nat×Nat)} {listed:Array Bool} {a:Act} {w:World} {un:List Nat},DI E O ops env0 w0 true done D listedS listed ts sh n env a w L un g →
       (∀ ts' sh' n' env' a' w',WF ts' n'→Rel E O ts' sh' env' a' w'→Step env0 w0 env' w'→Same (dsts ops.toList) a a'→K ts' sh' n'→Q .normal a' w')→wpAnyO E.P ops Q L g listed a w:=by
      intro g ihg D listed a w un h hq
      have pushS:∀ {j g':Nat},g=g'+1→j∈Region.ready .any ops listedS→j∈Region.ready .any ops listed→(un.filter (· != j)).length≤g'→allocAt ops.toList j=true →
        wpOp E.P ops Q j (fun a' w'=>(∀ p∈L,p.1 j=true→OldB p.2 w w')∧wpAnyO E.P ops Q L g' (listed.setIfInBounds j true) a' w') a w:=by
       intro j g' hgg hjS hj hg hal
       obtain ⟨_,o,ho,_⟩:=mem_ready.1 hj
       rw [allocAt_eq ho] at hal
       obtain ⟨t,hop⟩:=isAlloc_spec hal
       obtain ⟨i,z,d,hi,hiz,hgd,hdst,hDI⟩:=h.push hnu hla ho hop hjS hj hg
       unfold wpOp
       rw [ho]
       simp only
       rw [if_pos (by simp [Region.wanted,hgd])]
       refine .inl ?_
       have hrun:(execOp a.eval o).run E.P w = .ok (.value (.pointer (some ⟨w.heap.size,0,none⟩))) (w.alloc (.cells z.cells t)):=by
        simp [execOp,hop,Instr.alloc,zeroValue,typeInfo,hi,hiz,newVar,newRow]
       unfold Oper.wp
       rw [hrun,Oper.upon_value,hdst]
       refine ⟨fun p hp _=>(Old.alloc _ _).upTo (h.q p hp).1,ihg _ hgg hDI (fun ts2 sh2 n2 env2 a2 w2 hw2 h2 hs2 hsm hk2=>hq _ _ _ _ _ _ hw2 h2 hs2 ((Same.put a (some d) _ (fun t ht=>dsts_mem (Array.mem_toList_iff.2 (Array.mem_of_getElem? ho)) (by rw [hdst]; exact ht))).trans hsm) hk2)⟩
      have go1:∀ r,r∈Region.ready .any ops listedS→(∀ p∈D,p.1≠r)→(∀ j,j∈Region.ready .any ops listedS→allocAt ops.toList j=false→j∈qs)→wpAnyO E.P ops Q L g listed a w:=by
       intro r hr hrD hqs
       have hrr:=h.ready_sub hr hrD
       obtain ⟨g',hgg,_⟩:=h.pos hrr
       subst hgg
       refine ⟨fun he=>(by rw [he] at hrr; cases hrr),fun j hj=>?_⟩
       have hjS:=ready_done h.dS h.cS h.dr h.dc hla h.held hr hrD hj
       obtain ⟨g2,hg2,hg3⟩:=h.pos hj
       cases hg2
       cases hal:allocAt ops.toList j with
       | true=>exact pushS rfl hjS hj hg3 hal
       | false=>
        refine stepD h (fun e=>by cases e) hq (hqs j hjS hal) hjS hj hg3 (fun o ho p hp o' ho' d hd=>?_)
        obtain ⟨o2,t,_,_,_,h1,h2,_,h4,_,_,_,_,_,_,h11,_⟩:=h.held.ent p hp
        rw [ho'] at h1
        cases h1
        obtain ⟨_,d',h5,_,h6⟩:=lateAt_spec hla ho' h11 h2
        obtain ⟨_,_,_,h7⟩:=allocOf_spec h5
        rw [hd] at h7
        cases h7
        have hjl:j<ops.size:=(Array.getElem?_eq_some_iff.1 ho).1
        have hjd:inL j done=false:=by
         have h1:=(mem_ready.1 hjS).1
         rwa [h.dS.getD j hjl true] at h1
        have hjp:j≠p.1:=fun e=>by
         have h1:=(mem_ready.1 hj).1
         rw [h.dr.getD j hjl true] at h1
         exact (inL_DD_false.1 h1).1 p hp e.symm
        exact (h6 j o ho hjd hjp).1
      rcases hcase with ⟨hna,i0,r,hrs,hqs⟩ | ⟨hna,hqs⟩
      ·have hi0S:i0∈Region.ready .any ops listedS:=(ready_iff h.dS).2 (by rw [hrs]; exact List.mem_cons_self)
       by_cases hi0:∃ p∈D,p.1=i0
       ·obtain ⟨p,hpD,hpe⟩:=hi0
        subst hpe
        obtain ⟨o,t,d,i,z,h1,h2,h3,h4,_,_,_,_,_,h10,h11,h12⟩:=h.held.ent p hpD
        obtain ⟨⟨cs,hz⟩,_⟩:=lateAt_spec hla h1 h11 h2
        have hk2:=hk
        rw [hqs] at hk2
        simp only [allOf,nth_eq,Array.getElem?_toList,h1,guarded,h3,runOp,h2,stepOp,hz,go_eq,h4] at hk2
        obtain ⟨hh,hr⟩:=h.held.pop h.rel hpD h1 h2 h4 hz
        have hpl:p.1<ops.size:=(Array.getElem?_eq_some_iff.1 h1).1
        have hm:∀ k,k∈D.map Prod.fst++done↔k∈(D.filter fun q=>q.1 != p.1).map Prod.fst++p.1::done:=fun k=>by
         simp only [List.mem_append,List.mem_map,List.mem_cons,List.mem_filter]
         constructor
         ·rintro (⟨q,hq,e⟩ | h)
          ·by_cases e2:q.1=p.1
           ·exact .inr (.inl (by rw [← e,e2]))
           ·exact .inl ⟨q,⟨hq,by simpa using e2⟩,e⟩
          ·exact .inr (.inr h)
         ·rintro (⟨q,⟨hq,_⟩,e⟩ | h | h)
          ·exact .inl ⟨q,hq,e⟩
          ·exact .inl ⟨p,hpD,h.symm⟩
          ·exact .inr h
        refine ih (D:=D.filter fun q=>q.1 != p.1) (listedS:=listedS.setIfInBounds p.1 true) (listed:=listed) (un:=un) (g:=g) ⟨h.dS.set p.1 hpl,h.cS.set hi0S,h.dr.congr hm,h.dc,h.wf.put_new (some d) (.ptr (cnt sh) 0),hr,h.st.take h10,hh,fun e=>(by cases e),fun _=>hnu,h.q,fun k hk hkd=>h.uns k hk ?_,h.g⟩ hk2 hq
        rw [← hkd,Bool.eq_iff_iff,inL_iff,inL_iff]
        exact hm k
       ·exact go1 i0 hi0S (fun p hp e=>hi0 ⟨p,hp,e⟩) (fun j hj hal=>by
         have:j∈noAllocs ops.toList (readyFrom done 0 ops.toList):=mem_noAllocs.2 ⟨(ready_iff h.dS).1 hj,hal⟩
         rw [hna] at this; cases this)
      ·obtain ⟨k,hkn⟩:∃ k,k∈noAllocs ops.toList (readyFrom done 0 ops.toList):=by
        cases hn:noAllocs ops.toList (readyFrom done 0 ops.toList) with
        | nil=>exact (hna hn).elim
        | cons k l=>exact ⟨k,List.mem_cons_self⟩
       obtain ⟨hk1,hk2⟩:=mem_noAllocs.1 hkn
       refine go1 k ((ready_iff h.dS).2 hk1) (fun p hp e=>?_) (fun j hj hal=>by rw [hqs]; exact mem_noAllocs.2 ⟨(ready_iff h.dS).1 hj,hal⟩)
       obtain ⟨o,t,h1,h2⟩:=hDal h.held p hp
       rw [← e,allocAt_eq h1,h2] at hk2
       cases hk2
     intro g
     induction g with
     | zero=>exact core 0 (fun g' e=>by cases e)
     | succ g ihg=>exact core (g+1) (fun g' e=>by cases e; exact ihg)
    exact inner g h0 hq
theorem rel_drew (h:Rel E O ts sh env a w):Rel E O ts sh env a w.drew∧Step env w env w.drew:=by
 have hs:Step env w env w.drew:=⟨rfl,rfl,rfl,Nat.le_refl _,Nat.le_refl _,fun _ x h=>⟨x,h,.refl x⟩,fun _ h => .inl h,fun _ _ _=>rfl⟩
 refine ⟨⟨h.defers,h.tsz,fun t s ht=>?_,⟨h.heap.len,fun i so x h1 h2=>(h.heap.rep i so x h1 h2).step hs (fun _ _=>rfl),h.heap.disj,h.heap.out,h.heap.lt,h.heap.olt⟩,h.glob.step hs⟩,hs⟩
 obtain ⟨v,h1,h2⟩:=h.tmps t s ht
 exact ⟨v,h1,h2.step hs⟩
/-- A region whose order is open. -/
theorem region_drawn (hm:E.P.follows .mixedOrders=true) (hTT:∀ g,Meets E.P E.C E.GL (E.qf g) g (E.TT g)) {ops:Array Oper} (hsel:noSel ops.toList=true) {Q:Exit→Act→World→Prop} (hQ:∀ c a w,¬Q (.panic c) a w) {id n:Nat} {K:List (SV A)→List (SO A)→Nat→Prop}
  (hw:WF ts n) (h:Rel E O ts sh env a w) (hk:drawS E ops.toList (cnt ops.toList) false [] ts sh n K)
  (hq:∀ ts' sh' n' env' a' w',WF ts' n'→Rel E O ts' sh' env' a' w'→Step env w env' w'→Same (dsts ops.toList) a a'→K ts' sh' n'→Q .normal a' w'):(Code.region id ops true).wp E.P Q a w:=by
 refine wp_region_any hm (wpAny_of_O (L:=[]) _ _ _ _ ?_)
 obtain ⟨h1,h2⟩:=rel_drew h
 have hdr:DR ops [] (Array.replicate ops.size false):=⟨by simp,fun k hk=>by simp [hk,inL],fun k hk=>by cases hk⟩
 have hdc:DC ops (Array.replicate ops.size false):=fun k ok hok hk=>by
  exfalso
  simp [Array.getElem?_replicate] at hk
  split at hk<;>simp at hk
 refine draw_sound hTT hsel hQ (K:=K) (cnt ops.toList) (D:=[]) (un:=List.range ops.size) (listedS:=Array.replicate ops.size false) ⟨hdr,hdc,hdr,hdc,hw,by rw [aside_nil]; exact h1,Step.refl _ _,⟨by simp,by simp,fun p hp=>(by cases hp)⟩,fun _=>rfl,fun e=>(e rfl).elim,fun p hp=>(by cases hp),fun k hk _=>List.mem_range.2 hk,by simp⟩ hk (fun ts2 sh2 n2 env2 a2 w2 hw2 h3 hs2 hsm hk2=>hq _ _ _ _ _ _ hw2 h3 (h2.trans hs2) hsm hk2)
end
end Go.Eng

/-! The engine is right: where code arrives. Conditions: none. -/
namespace Go.Eng
open Go
variable {A:Nat→Type}
theorem joinL_eq {α:Type _}:∀ l m:List α,joinL l m=l++m
 | [],_=>rfl
 | x::l,m=>by simp [joinL,joinL_eq l m]
section
variable {O O2:Nat→Prop} {env env2:List Wit} {env':List Wit} {w:World} {C:Enc A}
theorem ite_tt {p:Prop} [Decidable p] (h:(if p then true else false)=true):p:=by
 split at h
 ·assumption
 ·cases h
theorem ite_and {p q:Bool} (h:(if p=true then q else false)=true):p=true∧q=true:=by
 split at h
 ·exact ⟨by assumption,h⟩
 ·cases h
theorem ROat.far (hO:∀ b,¬O b→¬owned env b→¬O2 b∧¬owned env2 b) {a:Option Addr} {vs:List Value} (h:ROat O env w a vs):ROat O2 env2 w a vs:=by
 rcases h with h | ⟨b,o,ha,hb,he,hc⟩
 ·exact .inl h
 ·exact .inr ⟨b,o,ha,(hO b hb he).1,(hO b hb he).2,hc⟩
mutual
/-- What speaks of no entry is so in every heap that owns no more. -/
theorem Rep.closed (hC:∀ t y,belowL 0 (C.enc t y)=true) (hO:∀ b,¬O b→¬owned env b→¬O2 b∧¬owned env2 b):∀ {s:SV A} {v:Value},belowV 0 s=true→Rep O env w C s v→Rep O2 env2 w C s v
 | _,_,_,.junk => .junk
 | _,_,_,.undef => .undef
 | _,_,_,.val => .val
 | _,_,_,.int => .int
 | _,_,_,.lit => .lit
 | _,_,_,.bl => .bl
 | _,_,_,.sb => .sb
 | _,_,hb,.ptr h=>absurd (ite_tt (by simp only [belowV] at hb; exact hb)) (Nat.not_lt_zero _)
 | _,_,hb,.aptr h=>absurd (ite_tt (by simp only [belowV] at hb; exact hb)) (Nat.not_lt_zero _)
 | _,_,hb,.asl h=>absurd (ite_tt (by simp only [belowV] at hb; exact hb)) (Nat.not_lt_zero _)
 | _,_,hb,.vec h=>absurd (ite_tt (by simp only [belowV] at hb; exact hb)) (Nat.not_lt_zero _)
 | _,_,hb,.vptr h=>absurd (ite_tt (by simp only [belowV] at hb; exact hb)) (Nat.not_lt_zero _)
 | _,_,hb,.rptr b o vs h1 h2 hl hcl h => .rptr b o vs (hO b h1 h2).1 (hO b h1 h2).2 hl hcl (RepL.closed hC hO (by simp only [belowV] at hb; exact hb) h)
 | _,_,_,.rints a c h1 h2 h => .rints a c h1 h2 (h.far hO)
 | _,_,_,.rseq a c vs h1 h2 h3 h hx => .rseq a c vs h1 h2 h3 (h.far hO) (fun j x hj=>RepL.closed hC hO (hC _ _) (hx j x hj))
 | _,_,_,.rful a vs h2 h3 h hx => .rful a vs h2 h3 (h.far hO) (fun j x hj=>RepL.closed hC hO (hC _ _) (hx j x hj))
 | _,_,hb,.iface h => .iface (Rep.closed hC hO (by simp only [belowV] at hb; exact hb) h)
 | _,_,_,.err h => .err h
 | _,_,hb,.fn us vs ha hb' => .fn us vs (RepL.closed hC hO (by simp only [belowV] at hb; exact (ite_and hb).1) ha) (RepL.closed hC hO (by simp only [belowV] at hb; exact (ite_and hb).2) hb')
 | _,_,hb,.agg vs h => .agg vs (RepL.closed hC hO (by simp only [belowV] at hb; exact hb) h)
 | _,_,hb,.tup vs h => .tup vs (RepL.closed hC hO (by simp only [belowV] at hb; exact hb) h)
theorem RepL.closed (hC:∀ t y,belowL 0 (C.enc t y)=true) (hO:∀ b,¬O b→¬owned env b→¬O2 b∧¬owned env2 b):∀ {cs:SL A} {vs:List Value},belowL 0 cs=true→RepL O env w C cs vs→RepL O2 env2 w C cs vs
 | _,_,_,.nil => .nil
 | _,_,hb,.cell h hr => .cell (Rep.closed hC hO (by simp only [belowL] at hb; exact (ite_and hb).1) h) (RepL.closed hC hO (by simp only [belowL] at hb; exact (ite_and hb).2) hr)
 | _,_,hb,.run hn hr => .run hn (RepL.closed hC hO (by simp only [belowL] at hb; exact hb) hr)
end
theorem eqo_rep {a b:SO A} {x:Wit} (hd:a ≠ .dead) (h:eqo a b) (hr:ORep O env w C b x):ORep O env w C a x:=by
 unfold eqo at h
 split at h
 ·exact absurd rfl hd
 ·split at h
  ·rename_i e
   subst e
   cases x with
   | blk b=>obtain ⟨vs,h1,h2⟩:=hr; exact ⟨vs,h1,eqvL_rep h h2⟩
   | dead=>exact hr
   | ro v=>exact hr
   | sl v=>exact hr
   | mb b=>exact hr
  ·exact h.elim
 ·split at h
  ·rename_i e
   subst e
   split at h
   ·rename_i e; subst e; subst h; exact hr
   ·exact h.elim
  ·exact h.elim
 ·split at h
  ·rename_i e; subst e; subst h; exact hr
  ·exact h.elim
 ·split at h
  ·rename_i e
   split at h
   ·rename_i e2
    subst e; subst e2
    obtain ⟨h1,h2⟩:=h
    subst h2
    simp only [castM] at h1
    subst h1
    exact hr
   ·exact h.elim
  ·exact h.elim
 ·split at h
  ·rename_i e
   split at h
   ·rename_i e2
    subst e; subst e2
    simp only [castM] at h
    subst h
    cases x with
    | mb b=>exact ⟨_,hr⟩
    | dead=>exact hr
    | ro v=>exact hr
    | sl v=>exact hr
    | blk b=>exact hr
   ·exact h.elim
  ·exact h.elim
 ·split at h
  ·rename_i e
   split at h
   ·rename_i e2
    subst e; subst e2
    simp only [castM] at h
    subst h
    cases x with
    | mb b=>exact ⟨_,hr.toR⟩
    | dead=>exact hr
    | ro v=>exact hr
    | sl v=>exact hr
    | blk b=>exact hr
   ·exact h.elim
  ·exact h.elim
 ·split at h
  ·rename_i e
   split at h
   ·rename_i e2
    subst e; subst e2
    obtain ⟨h1,h2,h3⟩:=h
    subst h2
    subst h3
    simp only [castM] at h1
    subst h1
    exact hr
   ·exact h.elim
  ·exact h.elim
 ·split at h
  ·rename_i e
   split at h
   ·rename_i e2
    subst e; subst e2
    simp only [castM] at h
    subst h
    exact hr
   ·exact h.elim
  ·exact h.elim
 ·obtain ⟨h1,rfl,rfl,rfl⟩:=h
  cases x with
  | blk b=>obtain ⟨bm,sn,h2,h3,h4⟩:=hr; exact ⟨bm,sn,h2,h3,eqv_rep h1 h4⟩
  | dead=>exact hr
  | ro v=>exact hr
  | sl v=>exact hr
  | mb b=>exact hr
 ·subst h; exact hr
/-- Entries that are wanted, the first n where they are, the others wherever they are. -/
structure Arr (n:Nat) (σ:List (SV A)) (env env':List Wit):Prop where
 keep:∀ (i:Nat) x,i<n→env[i]?=some x→env'[i]?=some x∨env'[i]?=some .dead
 vec:∀ k j,σ[k]?=some (.vec j)→env'[n+k]?=env[j]?
 ptr:∀ k j o,σ[k]?=some (.ptr j o)→env'[n+k]?=env[j]?
 nil:∀ k,σ[k]?=some (.val (.slice none 0 0))→env'[n+k]?=some (.sl (.slice none 0 0))
 own:∀ b,owned env' b→owned env b
section
variable {n:Nat} {σ:List (SV A)}
theorem Arr.blk (hc:Arr n σ env env') {i:Nat} (hi:i<n) {P:Nat→Prop} (h:blkAt env i P):blkAt env' i P:=by
 unfold blkAt at *
 cases hx:env[i]? with
 | none=>simp [hx] at h
 | some x=>
  rw [hx] at h
  rcases hc.keep i x hi hx with h1 | h1<;>rw [h1]
  ·exact h
  ·trivial
theorem Arr.ref (hc:Arr n σ env env') {i:Nat} (hi:i<n) {off:Nat} {v:Value} (h:refAt env i off v):refAt env' i off v:=by
 unfold refAt at *
 cases hx:env[i]? with
 | none=>simp [hx] at h
 | some x=>
  rw [hx] at h
  rcases hc.keep i x hi hx with h1 | h1<;>rw [h1]
  ·exact h
  ·trivial
theorem Arr.sl (hc:Arr n σ env env') {i:Nat} (hi:i<n) {P:Value→Prop} (h:slAt env i P):slAt env' i P:=by
 unfold slAt at *
 cases hx:env[i]? with
 | none=>simp [hx] at h
 | some x=>
  rw [hx] at h
  rcases hc.keep i x hi hx with h1 | h1<;>rw [h1]
  ·exact h
  ·trivial
mutual
theorem Rep.arr2 (hC:∀ t y,belowL 0 (C.enc t y)=true) (hc:Arr n σ env env') (hO:∀ b,¬O b→¬owned env b→¬O2 b∧¬owned env' b):∀ (s:SV A) {v:Value},okV n σ s=true→Rep O env w C (sub n σ s) v→Rep O2 env' w C s v
 | .junk,_,_,_ => .junk
 | .undef,_,_,h=>by simp only [sub] at h; rw [h.inv_undef]; exact .undef
 | .val u,_,_,h=>by simp only [sub] at h; rw [h.inv_val]; exact .val
 | .int k m,_,_,h=>by simp only [sub] at h; rw [h.inv_int]; exact .int
 | .lit k m,_,_,h=>by simp only [sub] at h; rw [h.inv_lit]; exact .lit
 | .bl b,_,_,h=>by simp only [sub] at h; rw [h.inv_bl]; exact .bl
 | .sb i b,_,_,h=>by simp only [sub] at h; rw [h.inv_sb]; exact .sb
 | .ptr i o,v,hb,h=>by
  simp only [okV] at hb
  simp only [sub] at h
  split at hb
  ·rename_i hi
   rw [if_pos hi] at h
   exact .ptr (hc.ref hi h.inv_ptr)
  ·rename_i hi
   rw [if_neg hi] at h
   unfold ptrSrc at hb
   rw [nth_eq] at hb h
   split at hb
   ·rename_i j hj
    rw [hj] at h
    simp only at h
    have h1:=h.inv_ptr
    have h2:=hc.ptr _ _ _ hj
    rw [show n+(i-n)=i from by omega] at h2
    refine .ptr ?_
    unfold refAt at h1 ⊢
    rw [h2]; exact h1
   ·cases hb
 | .aptr i o m j,v,hb,h=>by simp only [sub] at h; simp only [okV] at hb; exact .aptr (hc.blk (ite_tt hb) h.inv_aptr)
 | .asl i o m,v,hb,h=>by simp only [sub] at h; simp only [okV] at hb; exact .asl (hc.blk (ite_tt hb) h.inv_asl)
 | .vptr i j s o,v,hb,h=>by simp only [sub] at h; simp only [okV] at hb; exact .vptr (hc.sl (ite_tt hb) h.inv_vptr)
 | .vec i,v,hb,h=>by
  simp only [okV] at hb
  simp only [sub] at h
  split at hb
  ·rename_i hi
   rw [if_pos hi] at h
   exact .vec (hc.sl hi h.inv_vec)
  ·rename_i hi
   rw [if_neg hi] at h
   unfold vecSrc at hb
   rw [nth_eq] at hb h
   split at hb
   ·rename_i j hj
    rw [hj] at h
    simp only at h
    have h1:=h.inv_vec
    have h2:=hc.vec _ _ hj
    rw [show n+(i-n)=i from by omega] at h2
    refine .vec ?_
    unfold slAt at h1 ⊢
    rw [h2]; exact h1
   ·rename_i hj
    rw [hj] at h
    simp only at h
    have h1:=h.inv_val
    have h2:=hc.nil _ hj
    rw [show n+(i-n)=i from by omega] at h2
    refine .vec ?_
    unfold slAt
    rw [h2]; exact h1
   ·cases hb
 | .rptr cs o,v,hb,h=>by
  simp only [sub] at h; simp only [okV] at hb
  obtain ⟨b,o',vs,rfl,h1,h2,h3,h4,h5⟩:=h.inv_rptr
  exact .rptr b o' vs (hO b h1 h2).1 (hO b h1 h2).2 h3 h4 (RepL.arr2 hC hc hO cs hb h5)
 | .rints k xs,v,_,h=>by
  simp only [sub] at h
  obtain ⟨x,c,rfl,h1,h2,h3⟩:=h.inv_rints
  exact .rints x c h1 h2 (h3.far hO)
 | .rseq t xs,v,_,h=>by
  simp only [sub] at h
  obtain ⟨x,c,vs,rfl,h1,h2,h3,h4,h5⟩:=h.inv_rseq
  exact .rseq x c vs h1 h2 h3 (h4.far hO) (fun j y hj=>(h5 j y hj).closed hC hO (hC _ _))
 | .rful t xs,v,_,h=>by
  simp only [sub] at h
  obtain ⟨x,vs,rfl,h2,h3,h4,h5⟩:=h.inv_rful
  exact .rful x vs h2 h3 (h4.far hO) (fun j y hj=>(h5 j y hj).closed hC hO (hC _ _))
 | .iface t s,v,hb,h=>by
  simp only [sub] at h; simp only [okV] at hb
  obtain ⟨u,rfl,h1⟩:=h.inv_iface
  exact .iface (Rep.arr2 hC hc hO s hb h1)
 | .err t m,v,_,h=>by simp only [sub] at h; exact .err h.inv_err
 | .fn f x y,v,hb,h=>by
  simp only [sub] at h; simp only [okV] at hb
  obtain ⟨us,vs,rfl,h1,h2⟩:=h.inv_fn
  exact .fn us vs (RepL.arr2 hC hc hO x (ite_and hb).1 h1) (RepL.arr2 hC hc hO y (ite_and hb).2 h2)
 | .agg cs,v,hb,h=>by
  simp only [sub] at h; simp only [okV] at hb
  obtain ⟨us,rfl,h1⟩:=h.inv_agg
  exact .agg us (RepL.arr2 hC hc hO cs hb h1)
 | .tup cs,v,hb,h=>by
  simp only [sub] at h; simp only [okV] at hb
  obtain ⟨us,rfl,h1⟩:=h.inv_tup
  exact .tup us (RepL.arr2 hC hc hO cs hb h1)
theorem RepL.arr2 (hC:∀ t y,belowL 0 (C.enc t y)=true) (hc:Arr n σ env env') (hO:∀ b,¬O b→¬owned env b→¬O2 b∧¬owned env' b):∀ (cs:SL A) {vs:List Value},okL n σ cs=true→RepL O env w C (subL n σ cs) vs→RepL O2 env' w C cs vs
 | .nil,_,_,h=>by simp only [subL] at h; rw [h.inv_nil]; exact .nil
 | .cell s r,_,hb,h=>by
  simp only [subL] at h; simp only [okL] at hb
  obtain ⟨u,us,rfl,h1,h2⟩:=h.inv_cell
  exact .cell (Rep.arr2 hC hc hO s (ite_and hb).1 h1) (RepL.arr2 hC hc hO r (ite_and hb).2 h2)
 | .run k m xs r,_,hb,h=>by
  simp only [subL] at h; simp only [okL] at hb
  obtain ⟨us,hn,rfl,h1⟩:=h.inv_run
  exact .run hn (RepL.arr2 hC hc hO r hb h1)
end
theorem ORep.arr2 (hC:∀ t y,belowL 0 (C.enc t y)=true) (hc:Arr n σ env env') (hO:∀ b,¬O b→¬owned env b→¬O2 b∧¬owned env' b) {a:SO A} {x:Wit} (hb:okO n σ a=true) (h:ORep O env w C (subO n σ a) x):ORep O2 env' w C a x:=by
 cases a with
 | dead=>exact h
 | cells e cs=>
  cases x with
  | blk b=>obtain ⟨vs,h1,h2⟩:=h; exact ⟨vs,h1,h2.arr2 hC hc hO cs hb⟩
  | dead=>exact h
  | ro v=>exact h
  | sl v=>exact h
  | mb b=>exact h
 | smap kt vt es st=>cases x with
  | mb b=>exact MapR.imp h rfl (fun _ _ _ h=>h.closed hC hO (hC _ _))
  | dead=>exact h
  | ro v=>exact h
  | sl v=>exact h
  | blk b=>exact h
 | amap kt vt es=>
  cases x with
  | mb b=>obtain ⟨st,h⟩:=h; exact ⟨st,MapR.imp h rfl (fun _ _ _ h=>h.closed hC hO (hC _ _))⟩
  | dead=>exact h
  | sl v=>exact h
  | ro v=>exact h
  | blk b=>exact h
 | rmap kt vt es st c=>
  cases x with
  | mb b=>exact MapRC.imp h rfl (fun _ _ _ h=>h.closed hC hO (hC _ _))
  | dead=>exact h
  | sl v=>exact h
  | ro v=>exact h
  | blk b=>exact h
 | miter s s0 a c=>cases x with
  | blk b=>obtain ⟨bm,sn,h1,h2,h3⟩:=h; exact ⟨bm,sn,h1,h2,Rep.arr2 hC hc hO s hb h3⟩
  | dead=>exact h
  | ro v=>exact h
  | sl v=>exact h
  | mb b=>exact h
 | fr s=>cases x with
  | ro v=>exact Rep.arr2 hC hc hO s hb h
  | dead=>exact h
  | blk v=>exact h
  | sl v=>exact h
  | mb b=>exact h
 | ivec e k xs=>cases x<;>exact h
 | svec e xs=>
  cases x with
  | sl v=>obtain ⟨vs,h1,h2⟩:=h; exact ⟨vs,h1,fun j y hj=>(h2 j y hj).closed hC hO (hC _ _)⟩
  | dead=>exact h
  | ro v=>exact h
  | blk b=>exact h
  | mb b=>exact h
theorem Arr.same (hc:Arr n σ env env'):∀ b,¬O b→¬owned env b→¬O b∧¬owned env' b:=fun b h4 h5=>⟨h4,fun h6=>h5 (hc.own b h6)⟩
theorem Rep.arr (hC:∀ t y,belowL 0 (C.enc t y)=true) (hc:Arr n σ env env') (s:SV A) {v:Value} (hb:okV n σ s=true) (h:Rep O env w C (sub n σ s) v):Rep O env' w C s v:=Rep.arr2 hC hc hc.same s hb h
end
theorem subO_ne {n:Nat} {σ:List (SV A)} {a:SO A} (h:a ≠ .dead):subO n σ a ≠ .dead:=by
 cases a<;>first | exact absurd rfl h | (intro e; cases e)
theorem rslO_rep {sh:List (SO A)} (hh:HR O env w C sh) {a:SO A} {x:Wit} (h:ORep O env w C a x):ORep O env w C (rslO sh a) x:=by
 cases a with
 | cells e cs=>
  cases x with
  | blk b=>obtain ⟨vs,h1,h2⟩:=h; exact ⟨vs,h1,rep_rslL hh h2⟩
  | dead=>exact h
  | ro v=>exact h
  | sl v=>exact h
  | mb b=>exact h
 | smap _ _ _ _=>exact h
 | dead=>exact h
 | fr s=>exact h
 | miter s s0 a c=>exact h
 | amap _ _ _=>exact h
 | rmap _ _ _ _ _=>exact h
 | ivec e k xs=>exact h
 | svec e xs=>exact h
theorem rslV_rep {sh:List (SO A)} (hh:HR O env w C sh) {s:SV A} {v:Value} (h:Rep O env w C s v):Rep O env w C (rslV sh s) v:=by
 unfold rslV
 split
 ·obtain ⟨us,rfl,h1⟩:=h.inv_agg
  exact .agg us (rep_rslL hh h1)
 ·obtain ⟨us,vs,rfl,h1,h2⟩:=h.inv_fn
  exact .fn us vs (rep_rslL hh h1) (rep_rslL hh h2)
 ·exact rep_rsl hh h
/-- The heap's entries, as far as they are wanted. -/
def cutEnv:List (SO A)→List Wit→List Wit
 | [],_=>[]
 | .dead::r,_::e => .dead::cutEnv r e
 | _::r,x::e=>x::cutEnv r e
 | _::_,[]=>[]
theorem cutEnv_get:∀ {want:List (SO A)} {env:List Wit} {i:Nat} {x:Wit},(cutEnv want env)[i]?=some x→(∃ a,want[i]?=some a∧a ≠ .dead∧env[i]?=some x)∨(want[i]?=some .dead∧x = .dead)
 | [],env,i,x,h=>by simp [cutEnv] at h
 | a::r,[],i,x,h=>by cases a<;>simp [cutEnv] at h
 | a::r,y::e,0,x,h=>by
  cases a<;>simp [cutEnv] at h
  case dead=>exact .inr ⟨rfl,h.symm⟩
  all_goals exact .inl ⟨_,rfl,by simp,by simp [h]⟩
 | a::r,y::e,i+1,x,h=>by
  have:(cutEnv r e)[i]?=some x:=by cases a<;>simpa [cutEnv] using h
  simpa using cutEnv_get this
theorem cutEnv_len:∀ {want:List (SO A)} {env:List Wit},want.length≤env.length→(cutEnv want env).length=want.length
 | [],env,_=>rfl
 | a::r,[],h=>by simp at h
 | a::r,y::e,h=>by
  have:=cutEnv_len (want:=r) (env:=e) (by simpa using h)
  cases a<;>simp [cutEnv,this]
theorem okOs_get {n:Nat} {σ:List (SV A)}:∀ {l:List (SO A)},okOs n σ l=true→∀ (i:Nat) a,l[i]?=some a→okO n σ a=true
 | [],_,i,a,h=>by simp at h
 | x::l,hb,i,a,h=>by
  simp only [okOs] at hb
  obtain ⟨h1,h2⟩:=ite_and hb
  cases i with
  | zero=>simp at h; subst h; exact h1
  | succ i=>exact okOs_get h2 i a (by simpa using h)
theorem preIs_get {n:Nat} {σ:List (SV A)} {sh0:List (SO A)}:∀ {P sh:List (SO A)},preIs n σ sh0 P sh→P.length≤sh.length∧∀ (i:Nat) a b,P[i]?=some a→sh[i]?=some b→a ≠ .dead→eqo (subO n σ a) (rslO sh0 b)
 | [],sh,_=>⟨by simp,fun i a b h _ _=>by simp at h⟩
 | a::r,[],h=>by cases a<;>simp [preIs] at h
 | a::r,b::s,h=>by
  have key:(a ≠ .dead→eqo (subO n σ a) (rslO sh0 b))∧preIs n σ sh0 r s:=by
   cases a<;>simp only [preIs] at h
   case dead=>exact ⟨fun h=>absurd rfl h,h⟩
   all_goals exact ⟨fun _=>h.1,h.2⟩
  obtain ⟨h1,h2⟩:=preIs_get key.2
  refine ⟨by simpa using h1,fun i x y hx hy hne=>?_⟩
  cases i with
  | zero=>simp at hx hy; subst hx; subst hy; exact key.1 hne
  | succ i=>exact h2 i x y (by simpa using hx) (by simpa using hy) hne
theorem moreIs_get {n:Nat} {τ:List (SV A)} {sh:List (SO A)}:∀ {M:List (SO A)} {σ:List (SV A)},moreIs n τ sh M σ→M.length=σ.length∧∀ (k:Nat) a s,M[k]?=some a→σ[k]?=some s→more1 n τ sh a s
 | [],[],_=>⟨rfl,fun i a b h _=>by simp at h⟩
 | a::M,s::l,h=>by
  simp only [moreIs] at h
  obtain ⟨h1,h2⟩:=moreIs_get h.2
  refine ⟨by simp [h1],fun i x y hx hy=>?_⟩
  cases i with
  | zero=>simp at hx hy; subst hx; subst hy; exact h.1
  | succ i=>exact h2 i x y (by simpa using hx) (by simpa using hy)
 | [],_::_,h=>by simp [moreIs] at h
 | _::_,[],h=>by simp [moreIs] at h
/-- Where an entry comes from. -/
def srcOf:SV A→Option Nat
 | .vec j=>some j
 | .ptr j 0=>some j
 | _=>none
theorem memN_iff {j:Nat}:∀ {l:List Nat},memN j l=true↔j∈l
 | []=>by simp [memN]
 | i::l=>by
  simp only [memN,List.mem_cons]
  split
  ·rename_i e; simp [e]
  ·rename_i e
   rw [memN_iff]
   exact ⟨.inr,fun h=>h.elim (fun h=>absurd h.symm e) id⟩
theorem distinct_get {P:List (SO A)}:∀ {σ:List (SV A)} {seen:List Nat},distinct P σ seen=true →
  (∀ (k:Nat) s,σ[k]?=some s→(∃ j,(s = .vec j∨s = .ptr j 0)∧srcOf s=some j∧isDead P j=true∧j∉seen)∨(s = .val (.slice none 0 0))) ∧
  (∀ (k k':Nat) s s' j,σ[k]?=some s→σ[k']?=some s'→srcOf s=some j→srcOf s'=some j→k=k')
 | [],seen,_=>⟨fun k s h=>by simp at h,fun k k' s s' j h=>by simp at h⟩
 | s::l,seen,h=>by
  unfold distinct at h
  split at h
  ·rename_i e; cases e
  all_goals first | (cases h; done) | skip
  case h_2 | h_3=>
   rename_i j l' e
   cases e
   split at h
   ·rename_i hd
    split at h
    ·cases h
    ·rename_i hm
     obtain ⟨h1,h2⟩:=distinct_get h
     refine ⟨fun k s hk=>?_,fun k k' s s' i hk hk' hs hs'=>?_⟩
     ·cases k with
      | zero=>
       simp at hk; subst hk
       first
       | exact .inl ⟨j,.inl rfl,rfl,hd,fun h3=>hm (memN_iff.2 h3)⟩
       | exact .inl ⟨j,.inr rfl,rfl,hd,fun h3=>hm (memN_iff.2 h3)⟩
      | succ k=>
       rcases h1 k s (by simpa using hk) with ⟨i,h3,h4,h5,h6⟩ | h3
       ·exact .inl ⟨i,h3,h4,h5,fun h7=>h6 (List.mem_cons_of_mem _ h7)⟩
       ·exact .inr h3
     ·have key:∀ (k:Nat) s,l[k]?=some s→srcOf s=some i→i≠j:=by
       intro k s hk hs
       rcases h1 k s hk with ⟨i',h3,h4,h5,h6⟩ | h3
       ·rw [hs] at h4; cases h4
        exact fun e=>h6 (e▸List.mem_cons_self)
       ·rw [h3] at hs; cases hs
      cases k with
      | zero=>
       cases k' with
       | zero=>rfl
       | succ k'=>
        simp at hk; subst hk; cases hs
        exact absurd rfl (key k' s' (by simpa using hk') hs')
      | succ k=>
       cases k' with
       | zero=>
        simp at hk'; subst hk'; cases hs'
        exact absurd rfl (key k s (by simpa using hk) hs)
       | succ k'=>rw [h2 k k' s s' i (by simpa using hk) (by simpa using hk') hs hs']
   ·cases h
  case h_4=>
   rename_i e
   cases e
   obtain ⟨h1,h2⟩:=distinct_get h
   refine ⟨fun k s hk=>?_,fun k k' s s' i hk hk' hs hs'=>?_⟩
   ·cases k with
    | zero=>simp at hk; subst hk; exact .inr rfl
    | succ k=>exact h1 k s (by simpa using hk)
   ·cases k with
    | zero=>simp at hk; subst hk; cases hs
    | succ k=>
     cases k' with
     | zero=>simp at hk'; subst hk'; cases hs'
     | succ k'=>rw [h2 k k' s s' i (by simpa using hk) (by simpa using hk') hs hs']
def srcWit (env:List Wit):SV A→Wit
 | .vec j=>match env[j]? with
  | some x=>x
  | none => .dead
 | .ptr j _=>match env[j]? with
  | some x=>x
  | none => .dead
 | _ => .sl (.slice none 0 0)
def arrEnv (P:List (SO A)) (σ:List (SV A)) (env:List Wit):List Wit:=cutEnv P env++σ.map (srcWit env)
set_option maxHeartbeats 1000000 in
/-- The heap, as it is wanted. -/
theorem heap_arr2 {sh P M:List (SO A)} {σ:List (SV A)} (hC:∀ t y,belowL 0 (C.enc t y)=true) (h:HR O env w C sh) (hd:distinct P σ []=true)
  (hO2:∀ b,¬O b→¬owned env b→¬O2 b) (hout:∀ b,owned (arrEnv P σ env) b→¬O2 b) (holt:∀ b,O2 b→b<w.heap.size)
  (hbP:okOs P.length σ P=true) (hbM:okOs P.length σ M=true) (hp:preIs P.length σ sh P sh) (hm:moreIs P.length σ sh M σ) :
  HR O2 (arrEnv P σ env) w C (P++M)∧Arr P.length σ env (arrEnv P σ env):=by
 obtain ⟨hl,hget⟩:=preIs_get hp
 obtain ⟨hml,hmget⟩:=moreIs_get hm
 obtain ⟨hd1,hd2⟩:=distinct_get hd
 have hle:P.length≤env.length:=by rw [← h.len]; exact hl
 have hlen:(cutEnv P env).length=P.length:=cutEnv_len hle
 -- where each entry comes from
 have hsrc:∀ (k:Nat) a s j,M[k]?=some a→σ[k]?=some s→srcOf s=some j→∃ so x,sh[j]?=some so∧env[j]?=some x∧srcWit env s=x∧eqo (subO P.length σ a) (rslO sh so)∧a ≠ .dead:=by
  intro k a s j ha hs hj
  have hmo:=hmget k a s ha hs
  have hwit:∀ so,nth sh j=some so→∃ x,sh[j]?=some so∧env[j]?=some x∧srcWit env s=x:=by
   intro so hso
   rw [nth_eq] at hso
   have h1:j<env.length:=by rw [← h.len]; exact (List.getElem?_eq_some_iff.1 hso).1
   have h2:env[j]?=some env[j]:=List.getElem?_eq_getElem h1
   refine ⟨_,hso,h2,?_⟩
   unfold srcOf at hj
   split at hj
   ·cases hj; simp only [srcWit,h2]
   ·cases hj; simp only [srcWit,h2]
   ·cases hj
  unfold more1 at hmo
  split at hmo
  ·rename_i e k' xs j' 
   cases hj
   split at hmo
   ·rename_i so hso
    obtain ⟨x,h1,h2,h3⟩:=hwit so hso
    refine ⟨so,x,h1,h2,h3,?_,by simp⟩
    simp only [subO]
    cases so<;>first | exact hmo | (simp only [eqo] at hmo; cases hmo)
   ·exact hmo.elim
  ·rename_i e xs j'
   cases hj
   split at hmo
   ·rename_i so hso
    obtain ⟨x,h1,h2,h3⟩:=hwit so hso
    refine ⟨so,x,h1,h2,h3,?_,by simp⟩
    simp only [subO]
    cases so<;>first | exact hmo | (simp only [eqo] at hmo; cases hmo)
   ·exact hmo.elim
  ·rename_i e cs j' o'
   have hj':j'=j:=by
    unfold srcOf at hj
    split at hj
    ·rename_i e'; cases e'
    ·rename_i e'; cases e'; cases hj; rfl
    ·cases hj
   subst hj'
   split at hmo
   ·rename_i so hso
    obtain ⟨x,h1,h2,h3⟩:=hwit so hso
    exact ⟨so,x,h1,h2,h3,hmo,by simp⟩
   ·exact hmo.elim
  ·rename_i kt vt es st j' o'
   have hj':j'=j:=by
    unfold srcOf at hj
    split at hj
    ·rename_i e'; cases e'
    ·rename_i e'; cases e'; cases hj; rfl
    ·cases hj
   subst hj'
   split at hmo
   ·rename_i so hso
    obtain ⟨x,h1,h2,h3⟩:=hwit so hso
    refine ⟨so,x,h1,h2,h3,?_,by simp⟩
    simp only [subO]
    cases so<;>first | exact hmo | (simp only [eqo] at hmo; cases hmo)
   ·exact hmo.elim
  ·rename_i kt vt es j' o'
   have hj':j'=j:=by
    unfold srcOf at hj
    split at hj
    ·rename_i e'; cases e'
    ·rename_i e'; cases e'; cases hj; rfl
    ·cases hj
   subst hj'
   split at hmo
   ·rename_i so hso
    obtain ⟨x,h1,h2,h3⟩:=hwit so hso
    refine ⟨so,x,h1,h2,h3,?_,by simp⟩
    simp only [subO]
    cases so<;>first | exact hmo | (simp only [eqo] at hmo; cases hmo)
   ·exact hmo.elim
  ·cases hj
  ·cases hj
  ·exact hmo.elim
 have hgetP:∀ (i:Nat) x,i<P.length→(arrEnv P σ env)[i]?=some x→(cutEnv P env)[i]?=some x:=fun i x hi hx=>by
  unfold arrEnv at hx
  rwa [List.getElem?_append_left (by rw [hlen]; exact hi)] at hx
 have hgetM:∀ (i:Nat) x,P.length≤i→(arrEnv P σ env)[i]?=some x→∃ s,σ[i-P.length]?=some s∧srcWit env s=x:=fun i x hi hx=>by
  unfold arrEnv at hx
  rw [List.getElem?_append_right (by rw [hlen]; exact hi),hlen,List.getElem?_map] at hx
  cases hs:σ[i-P.length]? with
  | none=>rw [hs] at hx; simp at hx
  | some s=>rw [hs] at hx; simp at hx; exact ⟨s,rfl,hx⟩
 -- who owns what: each owner is an old one
 have hfrom:∀ (i:Nat) x b,(arrEnv P σ env)[i]?=some x→x.owns b→∃ j,env[j]?=some x∧((i=j∧i<P.length∧∃ a,P[i]?=some a∧a ≠ .dead)∨(P.length≤i∧∃ s,σ[i-P.length]?=some s∧srcOf s=some j∧isDead P j=true)):=by
  intro i x b hx ho
  rcases Nat.lt_or_ge i P.length with hi | hi
  ·rcases cutEnv_get (hgetP i x hi hx) with ⟨a,h1,h2,h3⟩ | ⟨_,h1⟩
   ·exact ⟨i,h3,.inl ⟨rfl,hi,a,h1,h2⟩⟩
   ·rw [h1] at ho; exact ho.elim
  ·obtain ⟨s,hs,hw⟩:=hgetM i x hi hx
   rcases hd1 _ s hs with ⟨j,h1,h2,h3,_⟩ | h1
   ·refine ⟨j,?_,.inr ⟨hi,s,hs,h2,h3⟩⟩
    have:srcWit env s=match env[j]? with | some x=>x | none => .dead:=by rcases h1 with rfl | rfl<;>rfl
    rw [this] at hw
    cases hj:env[j]? with
    | none=>rw [hj] at hw; simp only at hw; rw [← hw] at ho; exact ho.elim
    | some y=>rw [hj] at hw; simp only at hw; rw [hw]
   ·rw [h1] at hw
    simp only [srcWit] at hw
    rw [← hw] at ho
    simp [Wit.owns,Value.ownBlock] at ho
 have hsub:∀ b,owned (arrEnv P σ env) b→owned env b:=fun b ⟨i,x,hx,ho⟩=>by
  obtain ⟨j,hj,_⟩:=hfrom i x b hx ho
  exact ⟨j,x,hj,ho⟩
 have harr:Arr P.length σ env (arrEnv P σ env):=by
  have hmk:∀ (k:Nat) s,σ[k]?=some s→(arrEnv P σ env)[P.length+k]?=some (srcWit env s):=fun k s hs=>by
   unfold arrEnv
   rw [List.getElem?_append_right (by omega),hlen,List.getElem?_map,Nat.add_sub_cancel_left,hs]; rfl
  have hin:∀ (k:Nat) s j,σ[k]?=some s→srcOf s=some j→∃ x,env[j]?=some x∧srcWit env s=x:=fun k s j hs hj=>by
   have hk:k<M.length:=by rw [hml]; exact (List.getElem?_eq_some_iff.1 hs).1
   obtain ⟨so,x,_,h2,h3,_⟩:=hsrc k _ s j (List.getElem?_eq_getElem hk) hs hj
   exact ⟨x,h2,h3⟩
  refine ⟨fun i x hi hx=>?_,fun k j hs=>?_,fun k j o hs=>?_,fun k hs=>?_,hsub⟩
  ·have h1:i<(cutEnv P env).length:=by rw [hlen]; exact hi
   have:(arrEnv P σ env)[i]?=some ((cutEnv P env)[i]):=by
    unfold arrEnv
    rw [List.getElem?_append_left h1]; exact List.getElem?_eq_getElem h1
   rw [this]
   rcases cutEnv_get (List.getElem?_eq_getElem h1) with ⟨_,_,_,h2⟩ | ⟨_,h2⟩
   ·rw [hx] at h2; exact .inl h2.symm
   ·exact .inr (by rw [h2])
  ·obtain ⟨x,h1,h2⟩:=hin k _ j hs rfl
   rw [hmk k _ hs,h2,h1]
  ·rcases hd1 k _ hs with ⟨j',h1,h2,_⟩ | h1
   ·obtain ⟨x,h3,h4⟩:=hin k _ j' hs h2
    have:j'=j:=by rcases h1 with h1 | h1<;>cases h1; rfl
    subst this
    rw [hmk k _ hs,h4,h3]
   ·cases h1
  ·exact hmk k _ hs
 have hO:∀ b,¬O b→¬owned env b→¬O2 b∧¬owned (arrEnv P σ env) b:=fun b h1 h2=>⟨hO2 b h1 h2,fun h3=>h2 (hsub b h3)⟩
 refine ⟨⟨?_,fun i so x h1 h2=>?_,fun i j x y b h1 h2 hx hy=>?_,hout,fun b hb=>h.lt b (hsub b hb),holt⟩,harr⟩
 ·simp [arrEnv,hlen,hml]
 ·rcases Nat.lt_or_ge i P.length with hi | hi
  ·rw [List.getElem?_append_left hi] at h1
   rcases cutEnv_get (hgetP i x hi h2) with ⟨a,h3,h4,h5⟩ | ⟨h3,h4⟩
   ·rw [h1] at h3; cases h3
    have hil:i<sh.length:=by omega
    have hr:=rslO_rep h (h.rep i _ x (List.getElem?_eq_getElem hil) h5)
    exact (eqo_rep (subO_ne h4) (hget i so _ h1 (List.getElem?_eq_getElem hil) h4) hr).arr2 hC harr hO (okOs_get hbP i so h1)
   ·rw [h1] at h3; cases h3; exact h4
  ·rw [List.getElem?_append_right hi] at h1
   obtain ⟨s,hs,hw⟩:=hgetM i x hi h2
   rcases hd1 _ s hs with ⟨j,h3,h4,h5,_⟩ | h3
   ·obtain ⟨so',x',h6,h7,h8,h9,h10⟩:=hsrc _ so s j h1 hs h4
    rw [h8] at hw; subst hw
    have hr:=rslO_rep h (h.rep j _ _ h6 h7)
    exact (eqo_rep (subO_ne h10) h9 hr).arr2 hC harr hO (okOs_get hbM _ so h1)
   ·subst h3
    simp only [srcWit] at hw
    subst hw
    have hmo:=hmget _ so _ h1 hs
    unfold more1 at hmo
    split at hmo
    all_goals first | (rename_i e; cases e; done) | skip
    all_goals first | exact hmo.elim | skip
    ·subst hmo; exact ⟨by simp,.inl ⟨rfl,rfl⟩⟩
    ·subst hmo; exact ⟨[],⟨by simp,.inl ⟨rfl,rfl⟩⟩,fun j x hj=>by simp at hj⟩
 ·obtain ⟨p,h3,h4⟩:=hfrom i x b h1 hx
  obtain ⟨q,h5,h6⟩:=hfrom j y b h2 hy
  have hpq:=h.disj p q x y b h3 h5 hx hy
  subst hpq
  have hdead:∀ a,P[p]?=some a→a ≠ .dead→isDead P p=true→False:=by
   intro a ha hne hde
   unfold isDead at hde
   rw [nth_eq,ha] at hde
   cases a<;>simp at hde hne
  rcases h4 with ⟨rfl,h7,a,h8,h9⟩ | ⟨h7,s,h8,h9,h10⟩<;>rcases h6 with ⟨h11,h12,a',h13,h14⟩ | ⟨h11,s',h12,h13,h14⟩
  ·omega
  ·exact (hdead a h8 h9 h14).elim
  ·subst h11; exact (hdead a' h13 h14 h10).elim
  ·have:=hd2 _ _ s s' p h8 h12 h9 h13
   omega
theorem arrEnv_sub {P:List (SO A)} {σ:List (SV A)} {env:List Wit}:∀ b,owned (arrEnv P σ env) b→owned env b:=by
 rintro b ⟨i,x,hx,ho⟩
 unfold arrEnv at hx
 rcases Nat.lt_or_ge i (cutEnv P env).length with hi | hi
 ·rw [List.getElem?_append_left hi] at hx
  rcases cutEnv_get hx with ⟨_,_,_,h⟩ | ⟨_,h⟩
  ·exact ⟨i,x,h,ho⟩
  ·rw [h] at ho; exact ho.elim
 ·rw [List.getElem?_append_right hi,List.getElem?_map] at hx
  cases hs:σ[i-(cutEnv P env).length]? with
  | none=>rw [hs] at hx; simp at hx
  | some s=>
   rw [hs] at hx
   simp only [Option.map_some,Option.some.injEq] at hx
   subst hx
   unfold srcWit at ho
   split at ho
   ·rename_i j
    cases hj:env[j]? with
    | none=>rw [hj] at ho; exact ho.elim
    | some y=>rw [hj] at ho; exact ⟨_,y,hj,ho⟩
   ·rename_i j _
    cases hj:env[j]? with
    | none=>rw [hj] at ho; exact ho.elim
    | some y=>rw [hj] at ho; exact ⟨_,y,hj,ho⟩
   ·simp [Wit.owns,Value.ownBlock] at ho
/-- The heap, as it is wanted. -/
theorem heap_arr {sh P M:List (SO A)} {σ:List (SV A)} (hC:∀ t y,belowL 0 (C.enc t y)=true) (h:HR O env w C sh) (hd:distinct P σ []=true)
  (hbP:okOs P.length σ P=true) (hbM:okOs P.length σ M=true) (hp:preIs P.length σ sh P sh) (hm:moreIs P.length σ sh M σ) :
  HR O (arrEnv P σ env) w C (P++M)∧Arr P.length σ env (arrEnv P σ env):=
 heap_arr2 hC h hd (fun _ h _=>h) (fun b hb=>h.out b (arrEnv_sub b hb)) h.olt hbP hbM hp hm
theorem Step.arr {env0:List Wit} {w0:World} {n:Nat} {σ:List (SV A)} (hs:Step env0 w0 env w) (hn:env0.length≤n) (hl:n≤env'.length) (hc:Arr n σ env env'):Step env0 w0 env' w:=by
 refine ⟨hs.os,hs.tape,hs.output,hs.size,by omega,fun i x hx=>?_,fun b hb=>hs.fresh b (hc.own b hb),hs.cells⟩
 have hi:i<n:=by have:=(List.getElem?_eq_some_iff.1 hx).1; omega
 obtain ⟨y,h1,h2⟩:=hs.keep i x hx
 rcases hc.keep i y hi h1 with h3 | h3
 ·exact ⟨y,h3,h2⟩
 ·exact ⟨_,h3,.inr (.inl rfl)⟩
end
end Go.Eng

/-! The engine is right: code with its loops; functions. Conditions: none. -/
namespace Go.Eng
open Go
variable {A:Nat→Type}
structure Sound (E:Eng A):Prop where
 tt:∀ g,Meets E.P E.C E.GL (E.qf g) g (E.TT g)
 below:∀ n t y,belowL n (E.C.enc t y)=true
 mixed:E.P.follows .mixedOrders=true
/-- What code leaves, seen from where it began. -/
def PostW (E:Eng A) (O:Nat→Prop) (W:List Nat) (Q:Post A) (env:List Wit) (a:Act) (w:World) (e:Exit) (a':Act) (w':World):Prop:=
 ∃ x ts' sh' env' n',exOf e=some x∧Rel E O ts' sh' env' a' w'∧Step env w env' w'∧WF ts' n'∧Same W a a'∧Q x ts' sh' n'
section
variable {E:Eng A} {O:Nat→Prop}
theorem exOf_normal {e:Exit} (h:exOf e=some .normal):e = .normal:=by
 cases e<;>simp [exOf] at h; rfl
theorem PostW.mono {W W':List Nat} {Q:Post A} {env env1:List Wit} {a a1:Act} {w w1:World} (hW:∀ t,t∈W→t∈W') (hs:Step env w env1 w1) (hsm:Same W' a a1) {e:Exit} {a':Act} {w':World}
  (h:PostW E O W Q env1 a1 w1 e a' w'):PostW E O W' Q env a w e a' w':=by
 obtain ⟨x,ts',sh',env',n',h1,h2,h3,h4,h5,h6⟩:=h
 exact ⟨x,ts',sh',env',n',h1,h2,hs.trans h3,h4,hsm.trans (h5.mono hW),h6⟩
theorem rounds_succ_mono {P:Program} {c:Code} {Q:Exit→Act→World→Prop}:∀ {n:Nat} {a:Act} {w:World},Code.rounds P c Q n a w→Code.rounds P c Q (n+1) a w
 | 0,_,_,h=>h.elim
 | n+1,a,w,h=>by
  rw [rounds_succ] at h ⊢
  refine wp_mono h (fun e a' w' he=>?_)
  cases e<;>first | exact rounds_succ_mono he | exact he
theorem rounds_mono {P:Program} {c:Code} {Q:Exit→Act→World→Prop} {n m:Nat} (h:n≤m) {a:Act} {w:World} (hr:Code.rounds P c Q n a w):Code.rounds P c Q m a w:=by
 induction h with
 | refl=>exact hr
 | step _ ih=>exact rounds_succ_mono ih
theorem wp_loop_meas {P:Program} {c:Code} {Q:Exit→Act→World→Prop} (I:Nat→Act→World→Prop) (round:∀ n a w,I n a w→c.wp P (Exit.then (fun a' w'=>∃ m,m<n∧I m a' w') Q) a w) {n:Nat} {a:Act} {w:World} (h:I n a w) :
  (Code.loop c).wp P Q a w:=by
 have key:∀ n a w,I n a w→Code.rounds P c Q (n+1) a w:=by
  intro n
  induction n using Nat.strongRecOn with
  | _ n ih=>
   intro a w hI
   rw [rounds_succ]
   refine wp_mono (round n a w hI) (fun e a' w' he=>?_)
   cases e
   case normal=>
    obtain ⟨m,hm,hIm⟩:=he
    exact rounds_mono hm (ih m hm a' w' hIm)
   all_goals exact he
 exact wp_loop_rounds (n+1) (key n a w h)
theorem junkAll_get {ts:List (SV A)}:∀ {l:List Nat} {t:Nat} {s:SV A},(junkAll ts l)[t]?=some s→s = .junk∨(t∉l∧ts[t]?=some s):=by
 intro l
 induction l generalizing ts with
 | nil=>intro t s h; exact .inr ⟨by simp,h⟩
 | cons x l ih=>
  intro t s h
  simp only [junkAll] at h
  rcases ih h with h1 | ⟨h1,h2⟩
  ·exact .inl h1
  ·rw [setNth_eq] at h2
   by_cases e:x=t
   ·subst e
    have hl:x<ts.length:=by have:=(List.getElem?_eq_some_iff.1 h2).1; simpa using this
    rw [List.getElem?_set_self hl] at h2
    cases h2; exact .inl rfl
   ·rw [List.getElem?_set_ne e] at h2
    exact .inr ⟨by simp [h1,Ne.symm e],h2⟩
theorem junkAll_len {ts:List (SV A)}:∀ {l:List Nat},(junkAll ts l).length=ts.length:=by
 intro l
 induction l generalizing ts with
 | nil=>rfl
 | cons x l ih=>simp [junkAll,ih,setNth_eq]
theorem laySlots_len {n:Nat} {ts:List (SV A)}:∀ {l:List (Nat×SV A)},(laySlots n ts l).length=ts.length:=by
 intro l
 induction l generalizing ts n with
 | nil=>rfl
 | cons x l ih=>simp [laySlots,ih,setNth_eq]
theorem laySlots_get {n:Nat} {ts:List (SV A)}:∀ {l:List (Nat×SV A)} {t:Nat} {s:SV A},(laySlots n ts l)[t]?=some s→(∃ p∈l,p.1=t∧∃ m,s=named m p.2)∨ts[t]?=some s:=by
 intro l
 induction l generalizing ts n with
 | nil=>intro t s h; exact .inr h
 | cons x l ih=>
  intro t s h
  simp only [laySlots] at h
  rcases ih h with ⟨p,hp,h1,h2⟩ | h1
  ·exact .inl ⟨p,List.mem_cons_of_mem _ hp,h1,h2⟩
  ·rw [setNth_eq] at h1
   by_cases e:x.1=t
   ·subst e
    have hl:x.1<ts.length:=by have:=(List.getElem?_eq_some_iff.1 h1).1; simpa using this
    rw [List.getElem?_set_self hl] at h1
    cases h1; exact .inl ⟨x,List.mem_cons_self,rfl,n,rfl⟩
   ·rw [List.getElem?_set_ne e] at h1
    exact .inr h1
theorem WF.laySlots {n:Nat} {ts:List (SV A)} (h:WF ts n):∀ {l:List (Nat×SV A)},WF (laySlots n ts l) (n+cnt l):=by
 intro l
 induction l generalizing ts n with
 | nil=>exact h
 | cons x l ih=>
  have h1:=h.put_new (some x.1) x.2
  have h2:=ih h1
  simp only [Eng.laySlots,cnt]
  rw [show n+(cnt l+1)=n+1+cnt l from by omega]
  exact h2
theorem WF.junk {n:Nat} {ts:List (SV A)} (h:WF ts n):∀ {l:List Nat},WF (junkAll ts l) n:=by
 intro l
 induction l generalizing ts with
 | nil=>exact h
 | cons x l ih=>
  exact ih (h.put_old (some x) .junk (.inr fun i c e=>by cases e))
theorem slotsAre_get {n:Nat} {σ:List (SV A)} {ts:List (SV A)} {sh:List (SO A)}:∀ {l:List (Nat×SV A)},slotsAre n σ ts sh l→∀ p∈l,slotIs n σ ts sh p.1 p.2
 | [],_,p,hp=>by cases hp
 | [q],h,p,hp=>by simp at hp; subst hp; exact h
 | q::r::l,h,p,hp=>by
  rcases List.mem_cons.1 hp with e | hp
  ·subst e; exact h.1
  ·exact slotsAre_get (l:=r::l) h.2 p hp
theorem okSlots_get {n:Nat} {σ:List (SV A)}:∀ {l:List (Nat×SV A)},okSlots n σ l=true→∀ p∈l,okV n σ p.2=true
 | [],_,p,hp=>by cases hp
 | q::l,h,p,hp=>by
  simp only [okSlots] at h
  rcases List.mem_cons.1 hp with e | hp
  ·subst e; exact (ite_and h).1
  ·exact okSlots_get (ite_and h).2 p hp
/-- What an arrival comes to. -/
theorem arr_heap {O:Nat→Prop} {C:Enc A} {P M:List (SO A)} {slots:List (Nat×SV A)} {ts:List (SV A)} {sh:List (SO A)} {env:List Wit} {w:World} (hC:∀ t y,belowL 0 (C.enc t y)=true) (h:HR O env w C sh) (ha:arrS P M slots ts sh) :
  ∃ σ,(∀ p∈slots,okV P.length σ p.2=true)∧slotsAre P.length σ ts sh slots∧HR O (arrEnv P σ env) w C (P++M)∧Arr P.length σ env (arrEnv P σ env):=by
 unfold arrS at ha
 split at ha
 case h_2=>exact ha.elim
 rename_i σ _
 split at ha
 case isFalse=>exact ha.elim
 split at ha
 case isFalse=>exact ha.elim
 split at ha
 case isFalse=>exact ha.elim
 split at ha
 case isFalse=>exact ha.elim
 rename_i h1 h2 h3 h4
 rw [cnt_eq] at *
 obtain ⟨h5,h6⟩:=heap_arr hC h h4 h1 h2 ha.2.1 ha.2.2
 exact ⟨σ,okSlots_get h3,ha.1,h5,h6⟩
theorem rel_free:∀ {l:List (Nat×SV A)} {ts:List (SV A)} {sh:List (SO A)} {env:List Wit} {a:Act} {w:World},Rel E O ts sh env a w→∃ env',Rel E O (freeSlots l ts sh).1 (freeSlots l ts sh).2 env' a w∧Step env w env' w
 | [],ts,sh,env,a,w,h=>⟨env,h,Step.refl _ _⟩
 | (t,v)::l,ts,sh,env,a,w,h=>by
  unfold freeSlots
  split
  ·split
   ·rename_i s hs
    rw [nth_eq] at hs
    split
    ·rename_i s' sh' hlet
     obtain ⟨u,hu,hr⟩:=h.tmps t s hs
     obtain ⟨env1,h1,h2,h3⟩:=letGo_spec h.heap hlet hr
     have hrel:Rel E O (setNth ts t s') sh' env1 a w:=by
      refine ⟨h.defers,by rw [setNth_eq,List.length_set]; exact h.tsz,fun t' s2 ht=>?_,h1,h.glob.step h2⟩
      rw [setNth_eq] at ht
      by_cases e:t=t'
      ·subst e
       have hl:t<ts.length:=(List.getElem?_eq_some_iff.1 hs).1
       rw [List.getElem?_set_self hl] at ht
       cases ht
       exact ⟨u,hu,h3⟩
      ·rw [List.getElem?_set_ne e] at ht
       obtain ⟨u2,h4,h5⟩:=h.tmps t' s2 ht
       exact ⟨u2,h4,h5.step h2⟩
     obtain ⟨env2,h4,h5⟩:=rel_free (l:=l) hrel
     exact ⟨env2,h4,h2.trans h5⟩
    ·exact rel_free h
   ·exact rel_free h
  ·exact rel_free h
/-- From where code stands to a loop's head. -/
theorem rel_head0 {hS:Sound E} {ts ts0:List (SV A)} {sh sh0:List (SO A)} {env env0:List Wit} {a a0:Act} {w w0:World} {n:Nat} {Wr:List Nat} {slots:List (Nat×SV A)} {P M:List (SO A)}
  (h0:Rel E O ts0 sh0 env0 a0 w0) (h:Rel E O ts sh env a w) (hs:Step env0 w0 env w) (hsm:Same Wr a0 a) (hwl:P.length=sh0.length)
  (harr:arrS P M slots ts sh) :
  ∃ env',Rel E O (laySlots n (junkAll ts0 Wr) slots) (joinL P M) env' a w∧Step env0 w0 env' w:=by
 obtain ⟨σ,hbs,hsl,hh,hcut⟩:=arr_heap (hS.below 0) h.heap harr
 have hst:Step env0 w0 (arrEnv P σ env) w:=hs.arr (n:=P.length) (by rw [hwl,h0.heap.len]; exact Nat.le_refl _) (by rw [← hh.len]; simp) hcut
 rw [joinL_eq]
 refine ⟨_,⟨h.defers,?_,fun t s hts=>?_,hh,h0.glob.step hst⟩,hst⟩
 ·rw [laySlots_len,junkAll_len]
  have h1:a.tmps.size=a0.tmps.size:=hsm.size
  rw [h1]; exact h0.tsz
 ·rcases laySlots_get hts with ⟨p,hp,rfl,m,rfl⟩ | h1
  ·have:=slotsAre_get hsl p hp
   unfold slotIs at this
   split at this
   ·rename_i s' hs'
    rw [nth_eq] at hs'
    obtain ⟨v,hv,hr⟩:=h.tmps _ _ hs'
    exact ⟨v,hv,rep_named m ((eqv_rep this (rslV_rep h.heap hr)).arr (hS.below 0) hcut _ (hbs p hp))⟩
   ·exact this.elim
  ·rcases junkAll_get h1 with h2 | ⟨h2,h3⟩
   ·subst h2
    have hl:t<ts0.length:=by
     have:=(List.getElem?_eq_some_iff.1 hts).1
     rw [laySlots_len,junkAll_len] at this; exact this
    have hl2:t<a.tmps.size:=by rw [hsm.size,h0.tsz]; exact hl
    exact ⟨_,Array.getElem?_eq_getElem hl2,.junk⟩
   ·obtain ⟨v,hv,hr⟩:=h0.tmps t s h3
    exact ⟨v,by rw [hsm.get t h2]; exact hv,hr.step hst⟩
theorem rel_head {hS:Sound E} {ts ts0:List (SV A)} {sh sh0:List (SO A)} {env env0:List Wit} {a a0:Act} {w w0:World} {n:Nat} {Wr:List Nat} {slots:List (Nat×SV A)} {P M:List (SO A)}
  (h0:Rel E O ts0 sh0 env0 a0 w0) (h:Rel E O ts sh env a w) (hs:Step env0 w0 env w) (hsm:Same Wr a0 a) (hwl:P.length=sh0.length)
  (harr:arrF P M slots ts sh) :
  ∃ env',Rel E O (laySlots n (junkAll ts0 Wr) slots) (joinL P M) env' a w∧Step env0 w0 env' w:=by
 obtain ⟨env1,h1,h2⟩:=rel_free (l:=slots) h
 unfold arrF at harr
 generalize freeSlots slots ts sh=x at h1 harr
 obtain ⟨ts',sh'⟩:=x
 exact rel_head0 (hS:=hS) h0 h1 (hs.trans h2) hsm hwl harr
theorem layHeap_len {sh:List (SO A)}:∀ {l:List (Nat×SO A)},(layHeap sh l).length=sh.length:=by
 intro l
 induction l generalizing sh with
 | nil=>rfl
 | cons x l ih=>simp [layHeap,ih,setNth_eq]
/-- Code comes to what the engine makes of it. -/
theorem codeS_sound (hS:Sound E) {ann:Anns A}:∀ {c:Code} {Q:Post A} {ts:List (SV A)} {sh:List (SO A)} {n:Nat} {env:List Wit} {a:Act} {w:World},
  WF ts n→Rel E O ts sh env a w→codeS E ann c Q ts sh n→c.wp E.P (PostW E O (written c) Q env a w) a w:=by
 intro c
 induction c with
 | skip=>
  intro Q ts sh n env a w hw h hk
  exact wp_skip ⟨_,ts,sh,env,n,rfl,h,Step.refl _ _,hw,Same.refl _ _,hk⟩
 | region id ops d=>
  intro Q ts sh n env a w hw h hk
  cases d with
  | false=>
   simp only [codeS,go_eq] at hk
   refine wp_region_list (opsS_sound (W:=dsts ops.toList) hS.tt (fun o ho t ht=>dsts_mem ho ht) hw h hk (fun ts' sh' n' env' a' w' hw' h' hs hsm hk'=>?_))
   exact ⟨_,ts',sh',env',n',rfl,h',hs,hw',hsm,hk'⟩
  | true=>
   simp only [codeS] at hk
   split at hk
   case isFalse=>exact hk.elim
   rename_i hsel
   rw [go_eq] at hk
   refine region_drawn hS.mixed hS.tt hsel (fun c a w hq=>?_) hw h hk (fun ts' sh' n' env' a' w' hw' h' hs hsm hk'=>?_)
   ·obtain ⟨x,_,_,_,_,h1,_⟩:=hq
    simp [exOf] at h1
   ·exact ⟨_,ts',sh',env',n',rfl,h',hs,hw',hsm,hk'⟩
 | seq x y ihx ihy=>
  intro Q ts sh n env a w hw h hk
  simp only [codeS] at hk
  refine wp_seq (wp_mono (ihx hw h hk) (fun e a1 w1 he=>?_))
  obtain ⟨ex,ts1,sh1,env1,n1,h1,h2,h3,h4,h5,h6⟩:=he
  have hsm:Same (written (.seq x y)) a a1:=h5.mono (fun t ht=>List.mem_append_left _ ht)
  cases ex with
  | normal=>
   have:=exOf_normal h1
   subst this
   exact wp_mono (ihy h4 h2 h6) (fun e a2 w2 he=>PostW.mono (fun t ht=>List.mem_append_right _ ht) h3 hsm he)
  | exit id=>
   cases e<;>simp [exOf] at h1
   subst h1
   exact ⟨_,ts1,sh1,env1,n1,rfl,h2,h3,h4,hsm,h6⟩
  | ret=>
   cases e<;>simp [exOf] at h1
   exact ⟨_,ts1,sh1,env1,n1,rfl,h2,h3,h4,hsm,h6⟩
 | cond c x y ihx ihy=>
  intro Q ts sh n env a w hw h hk
  simp only [codeS] at hk
  have hc:=ev_rep h c
  split at hk
  ·rename_i e; rw [e] at hc
   exact wp_cond_true hc.inv_bl (wp_mono (ihx hw h hk) (fun e a2 w2 he=>PostW.mono (fun t ht=>List.mem_append_left _ ht) (Step.refl _ _) (Same.refl _ _) he))
  ·rename_i e; rw [e] at hc
   exact wp_cond_false hc.inv_bl (wp_mono (ihy hw h hk) (fun e a2 w2 he=>PostW.mono (fun t ht=>List.mem_append_right _ ht) (Step.refl _ _) (Same.refl _ _) he))
  ·rename_i i v e; rw [e] at hc
   have hold:=ev_old (E:=E) (ts:=ts) c
   rw [e] at hold
   obtain ⟨t0,ht0⟩:∃ t:Nat,ts[t]?=some (.sb i v):=by
    rcases hold with h1 | h1
    ·exact h1
    ·exact absurd rfl (h1 i v)
   cases v with
   | true=>exact wp_cond_true hc.inv_sb (wp_mono (ihx (hw.know i true) (rel_know hw ht0 h) (hk.1 rfl)) (fun e a2 w2 he=>PostW.mono (fun t ht=>List.mem_append_left _ ht) (Step.refl _ _) (Same.refl _ _) he))
   | false=>exact wp_cond_false hc.inv_sb (wp_mono (ihy (hw.know i false) (rel_know hw ht0 h) (hk.2 rfl)) (fun e a2 w2 he=>PostW.mono (fun t ht=>List.mem_append_right _ ht) (Step.refl _ _) (Same.refl _ _) he))
  ·exact hk.elim
 | block id c ih=>
  intro Q ts sh n env a w hw h hk
  simp only [codeS] at hk
  refine wp_block (wp_mono (ih hw h hk) (fun e a1 w1 he=>?_))
  obtain ⟨ex,ts1,sh1,env1,n1,h1,h2,h3,h4,h5,h6⟩:=he
  cases ex with
  | normal=>
   have:=exOf_normal h1
   subst this
   exact ⟨_,ts1,sh1,env1,n1,rfl,h2,h3,h4,h5,h6⟩
  | exit i=>
   cases e<;>simp [exOf] at h1
   subst h1
   simp only [Exit.inBlock]
   simp only at h6
   split
   ·rename_i e; rw [if_pos e] at h6; exact ⟨_,ts1,sh1,env1,n1,rfl,h2,h3,h4,h5,h6⟩
   ·rename_i e; rw [if_neg e] at h6; exact ⟨_,ts1,sh1,env1,n1,rfl,h2,h3,h4,h5,h6⟩
  | ret=>
   cases e<;>simp [exOf] at h1
   exact ⟨_,ts1,sh1,env1,n1,rfl,h2,h3,h4,h5,h6⟩
 | loop c ih=>
  intro Q ts sh n env a w hw h hk
  simp only [codeS] at hk
  split at hk
  ·exact hk.elim
  ·rename_i L hL
   obtain ⟨⟨x0,hi0,harr0⟩,hround⟩:=hk
   refine wp_loop_meas (I:=fun m a' w'=>∃ x env',L.inv x∧L.meas x=m∧Rel E O (laySlots n (junkAll ts (written c)) (L.slots x)) (joinL (layHeap sh (L.heap x)) (L.more x)) env' a' w'∧Step env w env' w'∧Same (written c) a a') ?_ (n:=L.meas x0) ?_
   ·rintro m a1 w1 ⟨x,env1,h1,h2,h3,h4,h5⟩
    have hwf:WF (laySlots n (junkAll ts (written c)) (L.slots x)) (n+cnt (L.slots x)):=(hw.junk).laySlots
    refine wp_mono (ih hwf h3 (hround x h1)) (fun e a2 w2 he=>?_)
    obtain ⟨ex,ts2,sh2,env2,n2,h6,h7,h8,h9,h10,h11⟩:=he
    cases ex with
    | normal=>
     have:=exOf_normal h6
     subst this
     obtain ⟨y,h12,h13,h14⟩:=h11
     obtain ⟨env',h16,h17⟩:=rel_head (hS:=hS) (n:=n) h h7 (h4.trans h8) (h5.trans h10) layHeap_len h14
     exact ⟨L.meas y,by omega,y,env',h12,rfl,h16,h17,h5.trans h10⟩
    | exit i=>
     cases e<;>simp [exOf] at h6
     subst h6
     exact ⟨_,ts2,sh2,env2,n2,rfl,h7,h4.trans h8,h9,h5.trans h10,h11⟩
    | ret=>
     cases e<;>simp [exOf] at h6
     exact ⟨_,ts2,sh2,env2,n2,rfl,h7,h4.trans h8,h9,h5.trans h10,h11⟩
   ·obtain ⟨env',h16,h17⟩:=rel_head (hS:=hS) (n:=n) h h (Step.refl _ _) (Same.refl (written c) a) layHeap_len harr0
    exact ⟨x0,env',hi0,rfl,h16,h17,Same.refl _ _⟩
 | exit id=>
  intro Q ts sh n env a w hw h hk
  exact wp_exit ⟨_,ts,sh,env,n,rfl,h,Step.refl _ _,hw,Same.refl _ _,hk⟩
 | ret=>
  intro Q ts sh n env a w hw h hk
  exact wp_ret ⟨_,ts,sh,env,n,rfl,h,Step.refl _ _,hw,Same.refl _ _,hk⟩
 | rangeFunc f p x y _ _=>intro Q ts sh n env a w hw h hk; exact hk.elim
 | scope c _=>intro Q ts sh n env a w hw h hk; exact hk.elim
 | label l=>intro Q ts sh n env a w hw h hk; exact hk.elim
 | goto l=>intro Q ts sh n env a w hw h hk; exact hk.elim
 | refuse s=>intro Q ts sh n env a w hw h hk; exact hk.elim
end
end Go.Eng
