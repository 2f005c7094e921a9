/- The engine's operations are right: reads, writes and new variables. Conditions: none. -/
import Derived.Test.YtcglahfmnoghjaaDoorE6
namespace Go.Eng
open Go
variable {A : Nat → Type}

section
variable {E : Eng A} {O : Nat → Prop} {ts : List (SV A)} {sh : List (SO A)} {env : List Wit} {a : Act} {w : World} {o : Oper} {K : Pred A}

theorem under_agg {P : Program} {t : TypeId} (h : aggT P t = true) : (isAgg t).run P w = .ok true w := by
  unfold aggT at h
  split at h
  · rename_i e; simp [isAgg, run_underlying (under_of_desc e (by simp))]
  · rename_i e; simp [isAgg, run_underlying (under_of_desc e (by simp))]
  · cases h

theorem under_not {P : Program} {t : TypeId} (h : aggT P t = false) (hd : desc P t ≠ .invalid) : (isAgg t).run P w = .ok false w := by
  have hu := under_of_desc (P := P) (t := t) rfl hd
  unfold isAgg
  rw [Sem.run_bind, run_underlying hu w]
  unfold aggT at h
  cases hdd : desc P t <;> simp_all

theorem run_loadVar_agg {P : Program} {t : TypeId} {b off : Nat} {vs : List Value} (h : aggT P t = true) (hs : tsize P t = vs.length) (hne : tsize P t ≠ 0)
    (hc : ∀ (j : Nat) u, vs[j]? = some u → w.cell? ⟨b, off + j, none⟩ = some u) : (loadVar t ⟨b, off, none⟩).run P w = .ok (.agg vs.toArray) w := by
  obtain ⟨i, hi, hsz⟩ := info_of_tsize hs (by omega)
  have hl := run_loadCells_list (P := P) w ⟨b, off, none⟩ vs (fun j v hv => by rw [Addr.add_lit]; exact hc j v hv)
  simp only [loadVar, Sem.run_bind, under_agg h, Result.andThen_ok, if_true, sizeOf, typeInfo]
  simp [hi, hsz, hl]

theorem run_loadVar_one {P : Program} {t : TypeId} {b off : Nat} {v : Value} (h : aggT P t = false) (hd : desc P t ≠ .invalid) (hc : w.cell? ⟨b, off, none⟩ = some v) :
    (loadVar t ⟨b, off, none⟩).run P w = .ok v w := by
  simp [loadVar, Sem.run_bind, under_not h hd, hc]

/-- A read of cells that lie there. -/
theorem run_rdCells {P : Program} {t : TypeId} {C : Enc A} {cs : SL A} {b o : Nat} {vs : List Value} {off : Nat} {s : SV A} (hd : desc P t ≠ .invalid) (hne : tsize P t ≠ 0)
    (hr : RepL O env w C cs vs) (e : rdCells P t cs off = some s) :
    ∃ v, (∀ w' : World, (∀ (j : Nat) u, vs[j]? = some u → w'.cell? ⟨b, o + j, none⟩ = some u) → (loadVar t ⟨b, o + off, none⟩).run P w' = .ok v w') ∧ Rep O env w C s v := by
  unfold rdCells at e
  split at e
  · rename_i hg
    split at e
    · rename_i d hsub
      cases e
      obtain ⟨h1, h2⟩ := hr.sub hsub
      refine ⟨_, fun w' hc => run_loadVar_agg (vs := (vs.drop off).take (tsize P t)) hg (by simp; omega) hne (fun j u hu => ?_), .agg _ h1⟩
      rw [List.getElem?_take] at hu
      split at hu
      · rw [List.getElem?_drop] at hu
        rw [Nat.add_assoc]
        exact hc _ u hu
      · cases hu
    · cases e
  · rename_i hg
    obtain ⟨v, hv, hr'⟩ := hr.one e
    exact ⟨v, fun w' hc => run_loadVar_one (by simpa using hg) hd (hc off v hv), hr'⟩

theorem run_rdRun {P : Program} {t : TypeId} {C : Enc A} {k : IntKind} {xs : List Int} {b o j : Nat} {K' : SV A → Prop}
    (hne : tsize P t ≠ 0) (hsz : ∀ n e k', desc P t = .array n e → desc P e = .int k' → tsize P t = n) (e : rdRun P t k xs j K') :
    ∃ v s, (∀ w' : World, (∀ (i : Nat) u, (xs.map (Value.int k))[i]? = some u → w'.cell? ⟨b, o + i, none⟩ = some u) → (loadVar t ⟨b, o + j, none⟩).run P w' = .ok v w') ∧ Rep O env w C s v ∧ K' s := by
  unfold rdRun at e
  split at e
  · rename_i k' hd
    split at e
    · rename_i hk
      subst hk
      obtain ⟨hj, hK⟩ := e
      refine ⟨.int k (xs.getD j 0), _, fun w' hc => run_loadVar_one (by simp [aggT, hd]) (by simp [hd]) (hc j _ ?_), .int, hK⟩
      simp [hj]
    · exact e.elim
  · rename_i n el hd
    split at e
    · rename_i k' hde
      split at e
      · rename_i hk
        subst hk
        obtain ⟨hj, hK⟩ := e
        have hn := hsz n el k hd hde
        refine ⟨_, _, fun w' hc => run_loadVar_agg (vs := ((xs.drop j).take n).map (Value.int k)) (by simp [aggT, hd]) (by simp; omega) hne (fun i u hu => ?_), .agg _ ?_, hK⟩
        · rw [Nat.add_assoc]
          apply hc
          rw [List.getElem?_map] at hu ⊢
          rw [List.getElem?_take] at hu
          split at hu
          · rwa [List.getElem?_drop] at hu
          · simp at hu
        · have := RepL.run (O := O) (env := env) (w := w) (C := C) (k := k) (n := n) (xs := (xs.drop j).take n) (by simp; omega) RepL.nil
          simpa using this
      · exact e.elim
    · exact e.elim
  · exact e.elim
end
end Go.Eng
