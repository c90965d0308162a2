/- What the row's condition says of the tables (laid): what the walks ask of them. -/
import Derived.Test.YtacopdbldfgknaaDoorTP
import Derived.LaidLaws
import Derived.LaidMore
import Derived.MakeChecks
import Derived.Test.YtacopdbldfgknaaDoorRows
namespace Go.Proofs.YtacopdbldfgknaaDoor
open Go Go.RowKit

theorem laid_at {P : Program} {w : World} : ∀ {l : List (String × DataW Unit)} {ps : List MemPlace}, DataW.LaidVars P w l ps → ∀ (i : Nat) (n : String) (d : DataW Unit), l[i]? = some (n, d) →
    ∃ g t cs fuel p, P.globalNamed n = some g ∧ (P.globals[g]?).map (·.type) = some t ∧ w.var? P n = some cs ∧ DataW.trod (fun _ => ()) P w 0 (fun _ => true) false fuel t cs.toList = some (d, p)
  | [], _, _, i, n, d, hi => by simp at hi
  | (n0, d0) :: r, ps, h, 0, n, d, hi => by
    obtain ⟨g, t, cs, fuel, p, q, h1, h2, h3, h4, _, _⟩ := h
    simp only [List.getElem?_cons_zero, Option.some.injEq, Prod.mk.injEq] at hi
    obtain ⟨rfl, rfl⟩ := hi
    exact ⟨g, t, cs, fuel, p, h1, h2, h3, h4⟩
  | (n0, d0) :: r, ps, h, i + 1, n, d, hi => by
    obtain ⟨g, t, cs, fuel, p, q, _, _, _, _, h5, _⟩ := h
    exact laid_at h5 i n d (by simpa using hi)
/-- A table of texts, as a row lists it. -/
def strData {H : Type} (l : List (List UInt8)) : DataW H := .agg (l.map fun s => .lit (.string s))
theorem cells_of_strs {H : Type} {enc : TypeId × Value → H} {P : Program} {w : World} {base : Nat} {sp : Nat → Bool} {held : Bool} {fuel : Nat} {t e : TypeId} {n : Nat} {cs : List Value} {l : List (List UInt8)} {p : List MemPlace}
    (ht : P.underlying t = some (.array n e)) (he : P.underlying e = some .string) (hce : P.cellsOf e = 1) (hct : P.cellsOf t = n)
    (h : DataW.trod enc P w base sp held fuel t cs = some (strData l, p)) : cs = l.map T := by
  obtain ⟨xs, m, rfl, hx, hlen, hn, hel⟩ := DataW.trod_array ht h
  rw [hce] at hel
  have hxs : xs.map (·.1) = l.map fun s => (DataW.lit (.string s) : DataW H) := by
    have := congrArg Prod.fst hx
    simpa [strData] using this.symm
  have hll : l.length = n := by have := congrArg List.length hxs; simp at this; omega
  apply List.ext_getElem?
  intro i
  by_cases hi : i < n
  · have h0 := hel i hi
    have hix : i < xs.length := by omega
    rw [List.getElem?_eq_getElem hix] at h0
    obtain ⟨s, hc, hv, _⟩ := DataW.trod_string he h0
    have h1 : cs[i]? = some (.string s) := by
      have := congrArg (·[0]?) hc
      simpa [List.getElem?_take, List.getElem?_drop] using this
    have h2 : (xs.map (·.1))[i]? = some (DataW.lit (.string s.data.toList) : DataW H) := by
      rw [List.getElem?_map, List.getElem?_eq_getElem hix, hv]; rfl
    rw [hxs] at h2
    simp only [List.getElem?_map, Option.map_eq_some_iff, DataW.lit.injEq, Lit.string.injEq] at h2
    obtain ⟨z, hz, rfl⟩ := h2
    rw [h1, List.getElem?_map, hz]
    rfl
  · rw [List.getElem?_eq_none (by omega), List.getElem?_eq_none (by simp; omega)]
theorem strs_of_laid {P : Program} {W : World} {laid : List (String × DataW Unit)} {ps : List MemPlace} (h : DataW.LaidVars P W laid ps) (i : Nat) {name : String} {l : List (List UInt8)} {g : Nat} {t e : TypeId} {n : Nat}
    (hi : laid[i]? = some (name, strData l)) (hg : P.globalNamed name = some g) (hty : (P.globals[g]?).map (·.type) = some t) (ht : P.underlying t = some (.array n e)) (he : P.underlying e = some .string) (hce : P.cellsOf e = 1) (hct : P.cellsOf t = n) :
    W.var? P name = some (l.map T).toArray := by
  obtain ⟨g', t', cs, fuel, p, h1, h2, h3, h4⟩ := laid_at h i _ _ hi
  obtain rfl := Option.some.inj (hg.symm.trans h1)
  obtain rfl := Option.some.inj (hty.symm.trans h2)
  rw [h3]
  have := cells_of_strs ht he hce hct h4
  rw [← this]
theorem tab_of_laid {P : Program} {W : World} {laid : List (String × DataW Unit)} {ps : List MemPlace} (h : DataW.LaidVars P W laid ps) (i : Nat) {name : String} {k : IntKind} {l : List Int} {g : Nat} {t e : TypeId} {n : Nat}
    (hi : laid[i]? = some (name, Lib.tabData k l)) (hg : P.globalNamed name = some g) (hty : (P.globals[g]?).map (·.type) = some t) (ht : P.underlying t = some (.array n e)) (he : P.underlying e = some (.int k)) (hce : P.cellsOf e = 1) (hct : P.cellsOf t = n) :
    Lib.TabIs P W name k l := by
  obtain ⟨g', t', cs, fuel, p, h1, h2, h3, h4⟩ := laid_at h i _ _ hi
  obtain rfl := Option.some.inj (hg.symm.trans h1)
  obtain rfl := Option.some.inj (hty.symm.trans h2)
  unfold Lib.TabIs
  rw [h3]
  have := Lib.cells_of_tab ht he hce hct h4
  rw [← this]
theorem vars_of_laid {W : World} (h : laidMetH Tryd.prog Rows.shellTextsRow.laid W) : Vars W := by
  rw [MakeChecks.laidMetH_plain _ _ _ (by kernel_rfl)] at h
  obtain ⟨ps, h, _⟩ := h
  exact ⟨tab_of_laid (e := 67) h 2 (by kernel_rfl) g_pow (by kernel_rfl) Tryd.underlying104 Tryd.underlying67 (by kernel_rfl) (by kernel_rfl),
    strs_of_laid (e := 9) h 7 (l := toldW) (by kernel_rfl) g_told (by kernel_rfl) Tryd.underlying59 (by kernel_rfl) (by kernel_rfl) (by kernel_rfl),
    strs_of_laid (e := 9) h 4 (l := typeW) (by kernel_rfl) g_types (by kernel_rfl) Tryd.underlying59 (by kernel_rfl) (by kernel_rfl) (by kernel_rfl),
    strs_of_laid (e := 9) h 5 (l := stepW) (by kernel_rfl) g_steps (by kernel_rfl) Tryd.underlying89 (by kernel_rfl) (by kernel_rfl) (by kernel_rfl),
    strs_of_laid (e := 9) h 6 (l := signW) (by kernel_rfl) g_signs (by kernel_rfl) Tryd.underlying90 (by kernel_rfl) (by kernel_rfl) (by kernel_rfl),
    strs_of_laid (e := 9) h 3 (l := fldW) (by kernel_rfl) g_flds (by kernel_rfl) Tryd.underlying89 (by kernel_rfl) (by kernel_rfl) (by kernel_rfl)⟩
end Go.Proofs.YtacopdbldfgknaaDoor
