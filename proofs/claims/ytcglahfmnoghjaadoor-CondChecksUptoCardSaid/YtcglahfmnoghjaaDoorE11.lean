/- The engine's operations are right: structs and arrays written out, places, parts. Conditions: none. -/
import Derived.Test.YtcglahfmnoghjaaDoorE10
namespace Go.Eng
open Go
variable {A : Nat → Type}

section
variable {E : Eng A} {O : Nat → Prop} {ts : List (SV A)} {sh : List (SO A)} {env : List Wit} {a : Act} {w : World} {o : Oper} {K : Pred A} {C : Enc A}

theorem fillS_spec {P : Program} {place : Nat → Option (Nat × Nat)} (hh : HR O env w C sh) : ∀ {parts : List (Nat × SV A)} {vparts : List (Nat × Value)} {cs x : SL A} {cells : Array Value},
    (∀ (j : Nat) i s, parts[j]? = some (i, s) → ∃ v, vparts[j]? = some (i, v) ∧ Rep O env w C s v) → parts.length = vparts.length → RepL O env w C cs cells.toList → fillS P place sh cs parts = some x →
    ∃ cells', Instr.fill place cells vparts = some cells' ∧ RepL O env w C x cells'.toList
  | [], [], cs, x, cells, _, _, hr, h => by
    simp [fillS] at h
    subst h
    exact ⟨cells, rfl, hr⟩
  | [], _ :: _, _, _, _, _, hl, _, _ => by simp at hl
  | _ :: _, [], _, _, _, _, hl, _, _ => by simp at hl
  | (i, s) :: parts, (i', v) :: vparts, cs, x, cells, hp, hl, hr, h => by
    obtain ⟨v', hv', hrv⟩ := hp 0 i s rfl
    simp only [List.getElem?_cons_zero, Option.some.injEq, Prod.mk.injEq] at hv'
    obtain ⟨rfl, rfl⟩ := hv'
    simp only [fillS] at h
    split at h
    · rename_i off size d hpl hd
      split at h
      · rename_i hlen
        split at h
        · rename_i cs' hput
          obtain ⟨hrd, _⟩ := rep_toSL hh hd hrv
          obtain ⟨hr2, hfit⟩ := hr.put hrd hput
          have hsz : v.cells.size = size := by rw [← hlen, ← hrd.length]; simp
          simp only [Array.length_toList] at hfit hr2
          have hfp := foldl_put v.cells.toList off cells (by simpa using hfit)
          simp only [Array.length_toList] at hfp
          have hr3 : RepL O env w C cs' ((v.cells.toList.zipIdx 0).foldl (fun cs (x : Value × Nat) => cs.setIfInBounds (off + x.2) x.1) cells).toList := by
            rw [hfp, ← List.append_assoc]; exact hr2
          obtain ⟨cells', h5, h6⟩ := fillS_spec (place := place) hh (parts := parts) (vparts := vparts) (fun j i s hj => by
            obtain ⟨v, h7, h8⟩ := hp (j + 1) i s (by simpa using hj)
            exact ⟨v, by simpa using h7, h8⟩) (by simpa using hl) hr3 h
          refine ⟨cells', ?_, h6⟩
          simp only [Instr.fill, hpl]
          rw [if_neg (by simp [hsz]; omega)]
          rw [← h5]
          congr 1
          rw [← Array.foldl_toList, Array.toList_zipIdx]
        · cases h
      · cases h
    · cases h

theorem parts_rep {l : List (Nat × Operand)} (h : Rel E O ts sh env a w) (j : Nat) (i : Nat) (s : SV A) (hj : (l.map fun p => (p.1, evr E ts sh p.2))[j]? = some (i, s)) :
    ∃ v, (l.map fun p => (p.1, a.eval p.2))[j]? = some (i, v) ∧ Rep O env w E.C s v := by
  rw [List.getElem?_map] at hj ⊢
  cases hp : l[j]? with
  | none => rw [hp] at hj; cases hj
  | some p =>
    rw [hp] at hj
    simp only [Option.map_some, Option.some.injEq, Prod.mk.injEq] at hj
    obtain ⟨rfl, rfl⟩ := hj
    exact ⟨_, rfl, evr_rep h p.2⟩

theorem sizedAll_spec {P : Program} : ∀ {l : List Field}, sizedAll P l = true → ∀ f ∈ l, tsize P f.type ≠ 0
  | [], _, _, h => by cases h
  | g :: l, h, f, hf => by
    simp only [sizedAll] at h
    split at h
    · cases h
    · rename_i h1
      rcases List.mem_cons.1 hf with e | hf
      · subst e; exact h1
      · exact sizedAll_spec h f hf

/-- A struct or an array is written out over zeros. -/
theorem run_fill {t : TypeId} {ps : Array (Nat × Operand)} {z cs : SL A} (h : Rel E O ts sh env a w) (hok : buildOk E.P t = true) (hz : tyZero E.P t = some z)
    (hf : fillS E.P (placeOf E.P t) sh z (ps.toList.map fun p => (p.1, evr E ts sh p.2)) = some cs) :
    ∃ cells' : Array Value, (Instr.build t (ps.map fun p => (p.1, a.eval p.2))).run E.P w = .ok (.agg cells') w ∧ RepL O env w E.C cs cells'.toList := by
  obtain ⟨i, zv, hi, hiz, hr⟩ := tyZero_spec hz
  obtain ⟨cells', h1, h2⟩ := fillS_spec h.heap (vparts := ps.toList.map fun p => (p.1, a.eval p.2)) (fun j i s hj => parts_rep h j i s hj) (by simp) (hr O env w E.C) hf
  refine ⟨cells', ?_, h2⟩
  have hz0 : (zeroValue t).run E.P w = .ok zv w := by simp [zeroValue, typeInfo, hi, hiz]
  simp only [Instr.build, Sem.run_bind, hz0, Result.andThen_ok]
  unfold buildOk at hok
  split at hok
  · rename_i fs hd
    have hu := under_of_desc hd (by simp)
    have hm := run_mapM_array (P := E.P) (w := w) (fun f : Field => do pure (f.offset, ← sizeOf f.type)) (fun f => (f.offset, tsize E.P f.type)) fs (fun f hf => by
      have hs := sizedAll_spec hok f hf
      obtain ⟨i, hi, hsz⟩ := info_of_tsize (P := E.P) (t := f.type) rfl hs
      simp [sizeOf, typeInfo, hi, hsz])
    have e : (placeOf E.P t) = fun x : Nat => (fs.map (fun f : Field => (f.offset, tsize E.P f.type)))[x]? := by
      funext x
      simp only [placeOf, hd, nth_eq, Array.getElem?_map]
      rw [Array.getElem?_toList]
      cases fs[x]? <;> rfl
    rw [e] at h1
    simp only [run_underlying hu, Result.andThen_ok, Sem.run_bind, hm, Array.toList_map, h1, Sem.run_pure]
  · rename_i n el hd
    have hu := under_of_desc hd (by simp)
    split at hok
    · cases hok
    · rename_i hs
      obtain ⟨i', hi', hsz'⟩ := info_of_tsize (P := E.P) (t := el) rfl hs
      have e : (placeOf E.P t) = fun x : Nat => some (x * i'.size, i'.size) := by
        funext x
        simp [placeOf, hd, hsz']
      rw [e] at h1
      have hso : (sizeOf el).run E.P w = .ok i'.size w := by simp [sizeOf, typeInfo, hi']
      simp only [run_underlying hu, Result.andThen_ok, Sem.run_bind, hso, Array.toList_map, h1, Sem.run_pure]
  · cases hok

theorem field_place {s : TypeId} {f off : Nat} {t : TypeId} {b o' : Nat} (hf : fieldOf E.P s f = some (off, t)) :
    ∃ fs, E.P.underlying s = some (.struct fs) ∧ ∃ fd, fs[f]? = some fd ∧ fd.type = t ∧ fd.offset = off ∧ tsize E.P t ≠ 0 ∧ ∀ w, (fieldPlace ⟨b, o', none⟩ fd).run E.P w = .ok ⟨b, o' + off, none⟩ w := by
  unfold fieldOf at hf
  split at hf
  · rename_i fs hd
    have hu := under_of_desc hd (by simp)
    split at hf
    · rename_i x hx
      split at hf
      · cases hf
      · rename_i hs
        cases hf
        rw [nth_eq, Array.getElem?_toList] at hx
        obtain ⟨i, hi, hsz⟩ := info_of_tsize (P := E.P) (t := x.type) rfl hs
        refine ⟨fs, hu, x, hx, rfl, rfl, hs, fun w => ?_⟩
        simp [fieldPlace, sizeOf, typeInfo, hi, hsz, hs, Addr.add_lit]
    · cases hf
  · cases hf

theorem op_fieldAddr {s : TypeId} {x : Operand} {f : Nat} (ho : o.op = .fieldAddr s x f) (h : Rel E O ts sh env a w) (hk : fieldS E s (evr E ts sh x) sh f fun v => K v sh) : OpY E O o sh env a w K := by
  have hx := evr_rep h x
  have key : ∀ (b o' off : Nat) (t : TypeId) (sv : SV A), a.eval x = .pointer (some ⟨b, o', none⟩) → fieldOf E.P s f = some (off, t) → Rep O env w E.C sv (.pointer (some ⟨b, o' + off, none⟩)) → K sv sh → OpY E O o sh env a w K := by
    intro b o' off t sv hv hf hr hK
    obtain ⟨fs, hu, fd, h1, h2, h3, h4, h5⟩ := field_place (b := b) (o' := o') hf
    refine opY_same (v := .pointer (some ⟨b, o' + off, none⟩)) (fun w' => ?_) hr hK
    simp only [execOp, ho, hv, Instr.fieldAt, Sem.run_bind, run_underlying hu, Result.andThen_ok, h1, Instr.sureAddr, Sem.run_pure, h5]
  generalize evr E ts sh x = sx at hx hk
  generalize a.eval x = vx at hx key
  unfold fieldS at hk
  split at hk
  · exact hk.elim
  · rename_i off t hf
    split at hk
    · rename_i i o'
      split at hk
      · rename_i hal
        obtain ⟨b, hb, hv⟩ := live_ptr h.heap hal hx.inv_ptr
        exact key _ _ _ _ _ hv hf (.ptr (by simp [blkAt, hb])) hk
      · exact hk.elim
    · exact hk.elim
    · rename_i cs o' hno
      obtain ⟨b, o2, vs, hv, hO, he, hlt, hc, hr⟩ := hx.inv_rptr
      refine key _ _ _ _ _ hv hf ?_ hk
      rw [Nat.add_assoc]
      exact .rptr b o2 vs hO he hlt hc hr
    · rename_i i j size o'
      split at hk
      · rename_i hal
        obtain ⟨v, hb, ⟨b, n, c, h1, h2⟩, _⟩ := live_vec h.heap hal hx.inv_vptr
        exact key _ _ _ _ _ h2 hf (.vptr (by simp [slAt, hb, h1, Nat.add_assoc])) hk
      · exact hk.elim
    · exact hk.elim

/-- A part of an aggregate. -/
theorem run_part {t : TypeId} {cs : SL A} {vs : List Value} {off : Nat} {s : SV A} (hok : okT E.P t = true) (hr : RepL O env w E.C cs vs) (e : rdCells E.P t cs off = some s) :
    ∃ v, (∀ w', (part t vs.toArray off).run E.P w' = .ok v w') ∧ Rep O env w E.C s v := by
  obtain ⟨hd, hne, _⟩ := okT_spec hok
  obtain ⟨i, hi, hsz⟩ := info_of_tsize (P := E.P) (t := t) rfl hne
  unfold rdCells at e
  split at e
  · rename_i hg
    split at e
    · rename_i d hsub
      cases e
      obtain ⟨h1, h2⟩ := hr.sub hsub
      refine ⟨.agg (vs.toArray.extract off (off + tsize E.P t)), ?_, ?_⟩
      · intro w'
        simp only [part, Sem.run_bind, under_agg hg, Result.andThen_ok, if_true, sizeOf, typeInfo]
        simp [hi, hsz]
      · have := Rep.agg (O := O) (env := env) (w := w) (C := E.C) _ h1
        have e2 : ((vs.drop off).take (tsize E.P t)).toArray = vs.toArray.extract off (off + tsize E.P t) := by
          simp [List.extract_eq_take_drop]
        rw [e2] at this
        exact this
    · cases e
  · rename_i hg
    obtain ⟨v, hv, hr'⟩ := hr.one e
    refine ⟨v, fun w' => ?_, hr'⟩
    simp only [part, Sem.run_bind, under_not (by simpa using hg) hd, Result.andThen_ok]
    simp [hv]

theorem op_field {s : TypeId} {x : Operand} {f : Nat} (ho : o.op = .field s x f) (h : Rel E O ts sh env a w) (hk : fieldVS E s (evr E ts sh x) f fun v => K v sh) : OpY E O o sh env a w K := by
  have hx := evr_rep h x
  unfold fieldVS at hk
  split at hk
  · exact hk.elim
  · rename_i off t hf
    split at hk
    · rename_i cs e
      rw [e] at hx
      obtain ⟨us, hv, hr⟩ := hx.inv_agg
      split at hk
      · rename_i hok
        split at hk
        · rename_i sv hsv
          obtain ⟨v, h1, h2⟩ := run_part hok hr hsv
          obtain ⟨fs, hu, fd, h3, h4, h5, _⟩ := field_place (b := 0) (o' := 0) hf
          subst h4; subst h5
          refine opY_same (v := v) (fun w' => ?_) h2 hk
          simp only [execOp, ho, hv, Instr.field, Sem.run_bind, run_underlying hu, Result.andThen_ok, h3, asAgg, Sem.run_pure, h1]
        · exact hk.elim
      · exact hk.elim
    · exact hk.elim

theorem op_extract {x : Operand} {i : Nat} (ho : o.op = .extract x i) (h : Rel E O ts sh env a w) (hk : stepOp E (.extract x i) ts sh K) : OpY E O o sh env a w K := by
  simp only [stepOp] at hk
  have hx := evr_rep h x
  split at hk
  · rename_i vs e
    rw [e] at hx
    obtain ⟨us, hv, hr⟩ := hx.inv_tup
    split at hk
    · rename_i s hs
      obtain ⟨v, h1, h2⟩ := hr.one hs
      exact opY_same (v := v) (fun w' => by simp [execOp, ho, hv, Instr.extract, h1]) h2 hk
    · exact hk.elim
  · exact hk.elim

theorem op_nilCheck {x : Operand} (ho : o.op = .nilCheck x) (h : Rel E O ts sh env a w) (hk : stepOp E (.nilCheck x) ts sh K) : OpY E O o sh env a w K := by
  simp only [stepOp] at hk
  have hx := evr_rep h x
  have key : ∀ (ad : Addr) (sv : SV A), a.eval x = .pointer (some ad) → Rep O env w E.C sv (a.eval x) → K sv sh → OpY E O o sh env a w K := by
    intro ad sv hv hr hK
    refine opY_same (v := .pointer (some ad)) (fun w' => by simp [execOp, ho, hv]) (by rw [← hv]; exact hr) hK
  split at hk
  · rename_i i off e
    split at hk
    · rename_i hal
      rw [e] at hx
      obtain ⟨b, hb, hv⟩ := live_ptr h.heap hal hx.inv_ptr
      exact key _ _ hv hx hk
    · exact hk.elim
  · rename_i i off n j e
    split at hk
    · rename_i hal
      rw [e] at hx
      obtain ⟨b, hb, hv, _⟩ := live_ptr h.heap hal hx.inv_aptr
      exact key _ _ hv hx hk
    · exact hk.elim
  · rename_i cs off e
    rw [e] at hx
    obtain ⟨b, o2, vs, hv, _⟩ := hx.inv_rptr
    exact key _ _ hv hx hk
  · rename_i i j s off e
    split at hk
    · rename_i hal
      rw [e] at hx
      obtain ⟨v, hb, ⟨b, n, c, h1, h2⟩, _⟩ := live_vec h.heap hal hx.inv_vptr
      exact key _ _ h2 hx hk
    · exact hk.elim
  · rename_i f p q e
    rw [e] at hx
    obtain ⟨us, vs, hv, _, _⟩ := hx.inv_fn
    exact opY_same (v := .func (.func f) us.toArray vs.toArray) (fun w' => by simp [execOp, ho, hv]) (by rw [← hv]; exact hx) hk
  · rename_i t s e
    rw [e] at hx
    obtain ⟨u, hv, _⟩ := hx.inv_iface
    exact opY_same (v := .iface t u) (fun w' => by simp [execOp, ho, hv]) (by rw [← hv]; exact hx) hk
  · exact hk.elim
end
end Go.Eng
