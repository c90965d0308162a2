/- What the row's condition says of the table: it is read. -/
import Derived.Test.YtpeafglbhjjbhaaDoorGO
import Derived.LaidLaws
import Derived.LaidMore
import Derived.MakeChecks
import Derived.FnData
import Derived.Test.YtpeafglbhjjbhaaDoorRows
namespace Go.Proofs.YtpeafglbhjjbhaaDoor
open Go Go.RowKit

def fldW : List (List UInt8) := [[78], [78], [83], [78, 65, 66], [65], [65, 66], [65], [65, 66], [65, 66], [78, 76, 75], [78, 65], [78, 65, 66], [78, 75], [65], [65], [65, 66], [65, 66, 67], [75], [65, 66, 67], [65, 66], [65], [65, 66], [65], [78, 76], [78, 65, 76], [65]]
theorem laid_at {P : Program} {w : World} : ∀ {l : List (String × DataW Unit)} {ps : List MemPlace}, DataW.LaidVars P w l ps → ∀ (i : Nat) (n : String) (d : DataW Unit), l[i]? = some (n, d) →
    ∃ g t cs fuel p, P.globalNamed n = some g ∧ (P.globals[g]?).map (·.type) = some t ∧ w.var? P n = some cs ∧ DataW.trod (fun _ => ()) P w 0 (fun _ => true) false fuel t cs.toList = some (d, p)
  | [], _, _, i, n, d, hi => by simp at hi
  | (n0, d0) :: r, ps, h, 0, n, d, hi => by
    obtain ⟨g, t, cs, fuel, p, q, h1, h2, h3, h4, _, _⟩ := h
    simp only [List.getElem?_cons_zero, Option.some.injEq, Prod.mk.injEq] at hi
    obtain ⟨rfl, rfl⟩ := hi
    exact ⟨g, t, cs, fuel, p, h1, h2, h3, h4⟩
  | (n0, d0) :: r, ps, h, i + 1, n, d, hi => by
    obtain ⟨g, t, cs, fuel, p, q, _, _, _, _, h5, _⟩ := h
    exact laid_at h5 i n d (by simpa using hi)
/-- A table of texts, as a row lists it. -/
def strData {H : Type} (l : List (List UInt8)) : DataW H := .agg (l.map fun s => .lit (.string s))
abbrev Tx (s : List UInt8) : Value := .string ⟨s.toArray⟩
theorem cells_of_strs {H : Type} {enc : TypeId × Value → H} {P : Program} {w : World} {base : Nat} {sp : Nat → Bool} {held : Bool} {fuel : Nat} {t e : TypeId} {n : Nat} {cs : List Value} {l : List (List UInt8)} {p : List MemPlace}
    (ht : P.underlying t = some (.array n e)) (he : P.underlying e = some .string) (hce : P.cellsOf e = 1) (hct : P.cellsOf t = n)
    (h : DataW.trod enc P w base sp held fuel t cs = some (strData l, p)) : cs = l.map Tx := by
  obtain ⟨xs, m, rfl, hx, hlen, hn, hel⟩ := DataW.trod_array ht h
  rw [hce] at hel
  have hxs : xs.map (·.1) = l.map fun s => (DataW.lit (.string s) : DataW H) := by
    have := congrArg Prod.fst hx
    simpa [strData] using this.symm
  have hll : l.length = n := by have := congrArg List.length hxs; simp at this; omega
  apply List.ext_getElem?
  intro i
  by_cases hi : i < n
  · have h0 := hel i hi
    have hix : i < xs.length := by omega
    rw [List.getElem?_eq_getElem hix] at h0
    obtain ⟨s, hc, hv, _⟩ := DataW.trod_string he h0
    have h1 : cs[i]? = some (.string s) := by
      have := congrArg (·[0]?) hc
      simpa [List.getElem?_take, List.getElem?_drop] using this
    have h2 : (xs.map (·.1))[i]? = some (DataW.lit (.string s.data.toList) : DataW H) := by
      rw [List.getElem?_map, List.getElem?_eq_getElem hix, hv]; rfl
    rw [hxs] at h2
    simp only [List.getElem?_map, Option.map_eq_some_iff, DataW.lit.injEq, Lit.string.injEq] at h2
    obtain ⟨z, hz, rfl⟩ := h2
    rw [h1, List.getElem?_map, hz]
    rfl
  · rw [List.getElem?_eq_none (by omega), List.getElem?_eq_none (by simp; omega)]
theorem strs_of_laid {P : Program} {W : World} {laid : List (String × DataW Unit)} {ps : List MemPlace} (h : DataW.LaidVars P W laid ps) (i : Nat) {name : String} {l : List (List UInt8)} {g : Nat} {t e : TypeId} {n : Nat}
    (hi : laid[i]? = some (name, strData l)) (hg : P.globalNamed name = some g) (hty : (P.globals[g]?).map (·.type) = some t) (ht : P.underlying t = some (.array n e)) (he : P.underlying e = some .string) (hce : P.cellsOf e = 1) (hct : P.cellsOf t = n) :
    W.var? P name = some (l.map Tx).toArray := by
  obtain ⟨g', t', cs, fuel, p, h1, h2, h3, h4⟩ := laid_at h i _ _ hi
  obtain rfl := Option.some.inj (hg.symm.trans h1)
  obtain rfl := Option.some.inj (hty.symm.trans h2)
  rw [h3]
  have := cells_of_strs ht he hce hct h4
  rw [← this]
theorem g_flds : Tryd.prog.globalNamed "hallmark/kind.fields" = some 0 := by kernel_rfl
theorem var_lt {P : Program} {n : String} {g : Nat} {cs : Array Value} {w : World} (hg : P.globalNamed n = some g) (h : w.var? P n = some cs) : g < w.heap.size := by
  unfold World.var? at h
  rw [hg] at h
  simp only [Option.bind_some] at h
  rcases Nat.lt_or_ge g w.heap.size with h' | h'
  · exact h'
  · rw [Array.getElem?_eq_none h'] at h; cases h
theorem fld_vals : fldW.map Tx = fldT.map (fun s => Value.string s) := by kernel_rfl
theorem flds_read {W : World} (hV : W.var? Tryd.prog "hallmark/kind.fields" = some (fldW.map Tx).toArray) : ∀ p ∈ GT, RD W (Nw W) (.rp p.2 0) (.pointer (some ⟨p.1, 0, none⟩)) := fun p hp => by
  rw [List.mem_singleton.1 (show p ∈ [_] from hp)]
  refine RD.rp (o := 0) 0 0 (fun j => ((fldT.map fun s => Value.string s)[j]?).getD undef) (var_lt g_flds hV) (fun j c hj => ?_) (fun j c hj => ?_)
  · have hj' : (fldT.map fun s => CT.v (.string s))[j]? = some c := hj
    rw [List.getElem?_map] at hj'
    rw [Nat.zero_add, World.var?_cell g_flds hV j, fld_vals]
    cases hx : fldT[j]? with
    | none => rw [hx] at hj'; cases hj'
    | some s => simp [hx]
  · have hj' : (fldT.map fun s => CT.v (.string s))[j]? = some c := hj
    rw [List.getElem?_map] at hj'
    cases hx : fldT[j]? with
    | none => rw [hx] at hj'; cases hj'
    | some s =>
      rw [hx] at hj'
      cases hj'
      simp [hx]
      exact .v _
end Go.Proofs.YtpeafglbhjjbhaaDoor

