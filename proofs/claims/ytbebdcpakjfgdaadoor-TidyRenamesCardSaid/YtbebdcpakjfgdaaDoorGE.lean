/- A function with other names of its values: the program's, the document's. -/
import Derived.Test.YtbebdcpakjfgdaaDoorGD
namespace Go.Proofs.YtbebdcpakjfgdaaDoor
open Go Go.RowKit

theorem set_fold (f : Int → Int) (l : List Int) : ∀ (n : Nat), n ≤ l.length → (List.range n).foldl (fun (m : List Int) i => m.set i (f ((m[i]?).getD 0))) l = (l.take n).map f ++ l.drop n
  | 0, _ => by simp
  | n + 1, h => by
    rw [List.range_succ, List.foldl_append, set_fold f l n (by omega)]
    have hn : n < l.length := h
    have hx : ((l.take n).map f ++ l.drop n)[n]? = some l[n] := by
      rw [List.getElem?_append_right (by simp; omega)]
      simp [Nat.min_eq_left (Nat.le_of_lt hn)]
    simp only [List.foldl_cons, List.foldl_nil, hx, Option.getD_some]
    rw [take_map_succ l f hn, drop_set l _ _ hn (by simp; omega)]
/-- A value gets its name, in its place. -/
theorem ren1 {σ ρ : Type} (to : List Int) (v : Int) (k : Int → σ) (s : σ) (hs : s = k v) : ((bif decide ((0 : Int) ≤ v) then some (decide (v < ((to.length : Nat) : Int))) else some false).bind fun b => bif b then ((atI to v).bind fun x => some (Xt.go (k x) : Xt σ ρ)) else some (Xt.go s)) = some (Xt.go (k (toF to v))) := by
  subst hs
  unfold toF
  by_cases h0 : (0 : Int) ≤ v
  · by_cases h1 : v < ((to.length : Nat) : Int)
    · have hl : v.toNat < to.length := by omega
      simp [h0, h1, atI, hl]
    · simp [h0, h1]
  · simp [h0]
theorem renP_eq {o : MOp} (to : List Int) (h : o.L.length ≤ 400) : p_kind_Renamed o to = some (reO to (plO o)) := by
  have hL := plO_L h
  have hLe : hasB o.K 76 = false → (plO o).L = [] := fun e => by
    unfold plO
    rw [e]
    rfl
  have hK : (plO o).K = o.K := rfl
  have hre : reO to (plO o) = ⟨(plO o).K, bif hasB (plO o).K 65 then toF to (plO o).A else (plO o).A, bif hasB (plO o).K 66 then toF to (plO o).B else (plO o).B, bif hasB (plO o).K 67 then toF to (plO o).C else (plO o).C, (plO o).N, (plO o).S, (plO o).L.map (toF to), (plO o).Stack⟩ := by
    unfold reO
    cases hh : hasB o.K 76 with
    | false =>
      have := hLe hh
      simp [hK, hh, this]
    | true => simp [hK, hh]
  rw [hre]
  unfold p_kind_Renamed
  simp only [plainP_eq h, Option.bind_some]
  generalize plO o = y at hL
  rw [operands_eq y.K y.L.length (by omega) _ (fun (s : Int × Int × Int × (List Int)) j => placeC j (toF to s.1, s.2.1, s.2.2.1, s.2.2.2) (s.1, toF to s.2.1, s.2.2.1, s.2.2.2) (s.1, s.2.1, toF to s.2.2.1, s.2.2.2) (fun i => (s.1, s.2.1, s.2.2.1, s.2.2.2.set i (toF to ((s.2.2.2[i]?).getD 0))))) (y.A, y.B, y.C, y.L) (fun s => s.2.2.2.length = y.L.length) rfl ?_]
  · have hfold : ∀ (a b c : Int) (m : List Int) (n : Nat), (List.range n).foldl (fun (s : Int × Int × Int × (List Int)) i => (s.1, s.2.1, s.2.2.1, s.2.2.2.set i (toF to ((s.2.2.2[i]?).getD 0)))) (a, b, c, m) = (a, b, c, (List.range n).foldl (fun (m : List Int) i => m.set i (toF to ((m[i]?).getD 0))) m) := fun a b c m n => by
      induction n with
      | zero => rfl
      | succ n ih =>
        rw [List.range_succ, List.foldl_append, List.foldl_append, ih]
        rfl
    have hset := set_fold (toF to) y.L y.L.length (Nat.le_refl _)
    rw [List.take_length, List.drop_length, List.append_nil] at hset
    cases h65 : hasB y.K 65 <;> cases h66 : hasB y.K 66 <;> cases h67 : hasB y.K 67 <;> simp only [cond_true, cond_false, placeC, Option.bind_some, Xt.on] <;> rw [hfold] <;> simp only [hset] <;> rw [ck_t (by simp)]
  · rintro ⟨a, b, c, m⟩ j hm hj
    have hm' : m.length = y.L.length := hm
    rcases plC4 j with rfl | rfl | rfl | ⟨i, rfl⟩
    · exact ⟨ren1 to a (fun x => (x, b, c, m)) _ rfl, hm⟩
    · exact ⟨ren1 to b (fun x => (a, x, c, m)) _ rfl, hm⟩
    · exact ⟨ren1 to c (fun x => (a, b, x, m)) _ rfl, hm⟩
    · have hi : i < m.length := by omega
      refine ⟨?_, by simpa [placeC] using hm⟩
      have hx : m[i]? = some m[i] := List.getElem?_eq_getElem hi
      show ck (i < m.length) (((m[i]?).bind fun x => (bif decide ((0 : Int) ≤ x) then some (decide (x < ((to.length : Nat) : Int))) else some false)).bind fun b' => bif b' then ((m[i]?).bind fun x => ((atI to x).bind fun x' => some (Xt.go (a, b, c, m.set i x')))) else some (Xt.go (a, b, c, m))) = some (Xt.go (a, b, c, m.set i (toF to ((m[i]?).getD 0))))
      rw [ck_t hi, hx]
      simp only [Option.bind_some, Option.getD_some]
      exact ren1 to m[i] (fun x => (a, b, c, m.set i x)) (a, b, c, m) (by simp)
end Go.Proofs.YtbebdcpakjfgdaaDoor
