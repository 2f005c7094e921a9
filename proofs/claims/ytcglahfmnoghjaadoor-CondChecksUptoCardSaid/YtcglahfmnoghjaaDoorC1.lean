/- What the rows' readings and listed variables come to, for this program. Conditions: none. -/
import Derived.Test.YtcglahfmnoghjaaDoorK16
import Derived.Test.YtcglahfmnoghjaaDoorR2
import Derived.Test.YtcglahfmnoghjaaDoorBulk
import Derived.Test.YtcglahfmnoghjaaDoorCards
import Derived.Test.YtcglahfmnoghjaaDoorTie
import Derived.Deep.DeepHandedRow
import Derived.LaidLaws
import Derived.LaidHandle
namespace Go.Proofs.YtcglahfmnoghjaaDoor
open Go Go.Eng Go.Proofs.Tryd Go.ChangeShapes Go.WideShapes Go.RowKit

theorem own : ownKnob prog.godebug = none := by kernel_rfl
theorem laidOut : laidOutB prog = true := by kernel_rfl
theorem etNumber : prog.globalNamed "errors.errorType" = some 0 := by kernel_rfl
theorem rtNumber : (prog.cutTypes.find? (·.1 == "internal/reflectlite.rtype")).map (·.2) = some 179 := by kernel_rfl
theorem typesSize : prog.types.size = 254 := by kernel_rfl
theorem oneRow : ((List.range 254).filter fun t => prog.rowNamed t [101, 114, 114, 111, 114]) = [34] := by kernel_rfl

/-- What the condition gives a walk: the variable's one cell. -/
theorem handle_of_laid {W : World} (h : handlesMet prog [("errors.errorType", Rows.laid_errors_errorType)] W) : W.cell? ⟨0, 0, none⟩ = some (.iface 179 (.agg #[.pointer (some ⟨3, 34, none⟩)])) := by
  obtain ⟨name, u, ty, e1, e2, e3, e4, e5⟩ := h _ (List.mem_singleton.2 rfl)
  have en : name = [101, 114, 114, 111, 114] := (Option.some.inj e1).symm
  subst en
  obtain rfl := Option.some.inj (rtNumber.symm.trans e2)
  have hm : ty ∈ (List.range 254).filter fun t => prog.rowNamed t [101, 114, 114, 111, 114] := List.mem_filter.2 ⟨List.mem_range.2 (by rw [← typesSize]; exact e3), e4⟩
  rw [oneRow] at hm
  obtain rfl := List.mem_singleton.1 hm
  have hh : typeHandle prog 34 = .pointer (some ⟨3, 34, none⟩) := by kernel_rfl
  rw [hh] at e5
  simpa using World.var?_cell etNumber e5 0

/-- A world that meets the rows' conditions: the settled one, the variables' cells laid. -/
def orderCells : Array Value := #[0, 1, 2, 3, 4, 5, 6, 7, 8, 9, 10, 11, 12, 13, 14, 15, 14, 10, 4, 8, 9, 15, 13, 6, 1, 12, 0, 2, 11, 7, 5, 3, 11, 8, 12, 0, 5, 2, 15, 13, 10, 14, 3, 6, 7, 1, 9, 4, 7, 9, 3, 1, 13, 12, 11, 14, 2, 6, 5, 10, 4, 0, 15, 8, 9, 0, 5, 7, 2, 4, 10, 15, 14, 1, 11, 12, 6, 8, 3, 13, 2, 12, 6, 10, 0, 11, 8, 3, 4, 13, 7, 5, 15, 14, 1, 9, 12, 5, 1, 15, 14, 13, 4, 10, 0, 7, 6, 3, 9, 2, 8, 11, 13, 11, 7, 14, 12, 1, 3, 9, 5, 0, 15, 4, 8, 6, 2, 10, 6, 15, 14, 9, 11, 3, 0, 8, 12, 2, 13, 7, 1, 4, 10, 5, 10, 2, 8, 4, 7, 6, 1, 5, 15, 11, 9, 14, 3, 12, 13, 0].map (Value.int .u8)
def layIn (cs : Array Value) : Obj → Obj
  | .cells _ t frozen => .cells cs t frozen
  | o => o
noncomputable def laidWorld (os : Os) : World :=
  { World.holding prog os ⟨#[], #[], []⟩ with heap := ((World.holding prog os ⟨#[], #[], []⟩).heap.modify 0 (layIn #[.iface 179 (.agg #[.pointer (some ⟨3, 34, none⟩)])])).modify 2 (layIn orderCells) }

theorem cells25 : prog.cellsOf 25 = 1 := by kernel_rfl
theorem cells3 : prog.cellsOf 3 = 1 := by kernel_rfl
theorem cells5 : prog.cellsOf 5 = 1 := by kernel_rfl
theorem cells44 : prog.cellsOf 44 = 32 := by kernel_rfl
theorem cells48 : prog.cellsOf 48 = 35 := by kernel_rfl
theorem cells22 : prog.cellsOf 22 = 1 := by kernel_rfl
theorem cells24 : prog.cellsOf 24 = 1 := by kernel_rfl

/-- A branch whose numbers fit. -/
structure BrWf (b : Br) : Prop where
  keys : ∀ x, x ∈ b.keys → (Lit.int .i64 x).wf = true
  lock : b.lock.length = 32
  bytes : ∀ x, x ∈ b.lock → (Lit.int .u8 x).wf = true
  after : (Lit.int .i64 b.after).wf = true
  older : (Lit.int .i64 b.older).wf = true


section
variable {H : Type} {enc : TypeId × Value → H} {w : World} {sp : Nat → Bool} {held : Bool}
theorem RdT.mono {P : Program} {C : Enc AA} {t : TypeId} {F G : SL AA → DataW H → Prop} (h : RdT enc P w sp held C t F) (hfg : ∀ sl d, F sl d → G sl d) : RdT enc P w sp held C t G := by
  intro fuel cs d ps hd
  obtain ⟨sl, h1, h2⟩ := h fuel cs d ps hd
  exact ⟨sl, h1, hfg _ _ h2⟩
def GBr (b : Br) (d : DataW H) : Prop := BrWf b ∧ ∃ dk rest, d = .agg (dk :: rest) ∧ b.keys.length = (delems dk).length
theorem rd_branch_of {P : Program} {tB tK tI tL tE : TypeId} {fs : Array Field} {C : Enc AA} (hB : P.underlying tB = some (.struct fs))
    (hfs : fs.toList.map (fun f => (f.type, f.offset)) = [(tK, 0), (tL, 1), (tI, 33), (tI, 34)]) (hK : P.underlying tK = some (.slice tI)) (hI : P.underlying tI = some (.int .i64)) (hL : P.underlying tL = some (.array 32 tE)) (hE : P.underlying tE = some (.int .u8))
    (cB : P.cellsOf tB = 35) (cK : P.cellsOf tK = 1) (cI : P.cellsOf tI = 1) (cL : P.cellsOf tL = 32) (cE : P.cellsOf tE = 1) :
    RdT enc P w sp held C tB fun sl d => ∃ b : Br, sl = encBr b ∧ GBr b d := by
  match hl : fs.toList, hfs with
  | [f1, f2, f3, f4], hfs =>
    simp only [List.map_cons, List.map_nil, List.cons.injEq, Prod.mk.injEq, and_true] at hfs
    obtain ⟨⟨t1, o1⟩, ⟨t2, o2⟩, ⟨t3, o3⟩, t4, o4⟩ := hfs
    refine RdT.mono (rd_struct hB (by
      rw [hl]
      exact rd_fs_cons o1 (by rw [t1]; exact rd_ints hK hI cI) (rd_fs_cons (by rw [t1, cK, o2]) (by rw [t2]; exact rd_arr hL hE cE cL)
        (rd_fs_cons (by rw [t1, t2, cK, cL, o3]) (by rw [t3]; exact rd_int hI) (rd_fs_cons (by rw [t1, t2, t3, cK, cL, cI, o4]) (by rw [t4]; exact rd_int hI) (rd_fs_nil (by rw [t1, t2, t3, t4, cK, cL, cI, cB]; omega))))))) ?_
    rintro sl d ⟨ds, rfl, s1, s2, d1, ds1, rfl, rfl, ⟨ks, rfl, h1, h2⟩, s3, s4, d2, ds2, rfl, rfl, ⟨lk, rfl, h3, h4⟩, s5, s6, d3, ds3, rfl, rfl, ⟨af, rfl, h5⟩, s7, s8, d4, ds4, rfl, rfl, ⟨ol, rfl, h6⟩, rfl, rfl⟩
    exact ⟨⟨ks, lk, af, ol⟩, rfl, ⟨h2, h3, h4, h5, h6⟩, d1, _, rfl, h1⟩
  | [], hfs => simp at hfs
  | [_], hfs => simp at hfs
  | [_, _], hfs => simp at hfs
  | [_, _, _], hfs => simp at hfs
  | _ :: _ :: _ :: _ :: _ :: _, hfs => simp at hfs
theorem rd_branch : RdT enc prog w sp held CC 48 fun sl d => ∃ b : Br, sl = encBr b ∧ GBr b d :=
  rd_branch_of underlying48 rfl underlying25 underlying3 underlying44 underlying5 cells48 cells25 cells3 cells44 cells5

theorem delems_le (d : DataW H) : (delems d).length ≤ Rows.uptoBulk d := by
  cases d with
  | slice e sp => have := bulks.slice_le e sp; simp only [delems]; omega
  | _ => simp [delems]
theorem gbr_le {b : Br} {d : DataW H} (h : GBr b d) : b.keys.length + 1 ≤ Rows.uptoBulk d := by
  obtain ⟨_, dk, rest, rfl, h2⟩ := h
  have := delems_le dk
  simp only [Rows.uptoBulk, Rows.uptoBulkAll]
  omega
theorem sumK_le : ∀ {bs : List Br} {ds : List (DataW H)}, bs.length = ds.length → (∀ (j : Nat) y d, bs[j]? = some y → ds[j]? = some d → GBr y d) → bs.length + sumK bs ≤ Rows.uptoBulkAll ds
  | [], [], _, _ => by simp [sumK, Rows.uptoBulkAll]
  | b :: bs, d :: ds, hl, h => by
    have h1 := gbr_le (h 0 b d rfl rfl)
    have h2 := sumK_le (bs := bs) (ds := ds) (by simpa using hl) (fun j y d' hy hd => h (j + 1) y d' (by simpa using hy) (by simpa using hd))
    simp only [sumK, Rows.uptoBulkAll, List.length_cons]
    omega
  | [], _ :: _, hl, _ => by simp at hl
  | _ :: _, [], hl, _ => by simp at hl

def CondWf (bs : List Br) : Prop := ∀ b, b ∈ bs → BrWf b
/-- A condition, as a row reads it. -/
theorem rd_cond_of {P : Program} {tC tS tB : TypeId} {fs : Array Field} (hC : P.underlying tC = some (.struct fs)) (hfs : fs.toList.map (fun f => (f.type, f.offset)) = [(tS, 0)]) (hS : P.underlying tS = some (.slice tB))
    (cC : P.cellsOf tC = 1) (cS : P.cellsOf tS = 1) (cB : P.cellsOf tB = 35) (hb : RdT enc P w sp held CC tB fun sl d => ∃ b : Br, sl = encBr b ∧ GBr b d) :
    RdT enc P w sp held CC tC fun sl d => ∃ bs : List Br, sl = .cell (.rseq 48 bs) .nil ∧ CondWf bs ∧ weight bs ≤ Rows.uptoBulk d := by
  match hl : fs.toList, hfs with
  | [f1], hfs =>
    simp only [List.map_cons, List.map_nil, List.cons.injEq, Prod.mk.injEq, and_true] at hfs
    obtain ⟨t1, o1⟩ := hfs
    have hseq : RdT enc P w sp held CC tS fun sl d => ∃ bs : List Br, sl = .cell (.rseq 48 bs) .nil ∧ bs.length = (delems d).length ∧ ∀ (j : Nat) y d', bs[j]? = some y → (delems d)[j]? = some d' → GBr y d' :=
      rd_seq (u := 48) (G := GBr) hS cB (by decide) (RdT.mono hb fun sl d ⟨b, h1, h2⟩ => ⟨b, h1, h2⟩)
    refine RdT.mono (rd_struct hC (by
      rw [hl]
      exact rd_fs_cons o1 (by rw [t1]; exact hseq) (rd_fs_nil (by rw [t1, cC, cS]; omega)))) ?_
    rintro sl d ⟨ds, rfl, s1, s2, d1, ds1, rfl, rfl, ⟨bs, rfl, h1, h2⟩, rfl, rfl⟩
    refine ⟨bs, rfl, fun b hb => ?_, ?_⟩
    · obtain ⟨j, hj⟩ := List.getElem?_of_mem hb
      have hl : j < (delems d1).length := by
        have := (List.getElem?_eq_some_iff.1 hj).1
        rw [← h1]; exact this
      exact (h2 j b _ hj (List.getElem?_eq_getElem hl)).1
    · have h3 := sumK_le h1 h2
      have h4 : Rows.uptoBulkAll (delems d1) ≤ Rows.uptoBulk d1 := by
        cases d1 with
        | slice e sp => have := bulks.slice_elems e sp; simp only [delems]; omega
        | _ => simp [delems, Rows.uptoBulkAll]
      simp only [Rows.uptoBulk, Rows.uptoBulkAll, weight]
      omega
  | [], hfs => simp at hfs
  | _ :: _ :: _, hfs => simp at hfs
theorem rd_cond : RdT enc prog w sp held CC 24 fun sl d => ∃ bs : List Br, sl = .cell (.rseq 48 bs) .nil ∧ CondWf bs ∧ weight bs ≤ Rows.uptoBulk d :=
  rd_cond_of underlying24 rfl underlying22 cells24 cells22 cells48 rd_branch
end

theorem glob_of_laid {W : World} (hg : W.cell? ⟨0, 0, none⟩ = some (.iface 179 (.agg #[.pointer (some ⟨3, 34, none⟩)]))) : Glob GG NoO [] W CC := by
  intro g cs h
  unfold GG at h
  cases e : Nat.beq g 0 with
  | false => rw [e] at h; cases h
  | true =>
    rw [e] at h
    cases h
    have := Nat.eq_of_beq_eq_true e
    subst this
    exact .rptr 0 0 [.iface 179 (.agg #[.pointer (some ⟨3, 34, none⟩)])] (fun h => h) (notOwned 0) (cell_lt hg) (fun j u hu => by
      cases j with
      | zero => simp at hu; subst hu; exact hg
      | succ j => simp at hu) (.cell .val .nil)
end Go.Proofs.YtcglahfmnoghjaaDoor
