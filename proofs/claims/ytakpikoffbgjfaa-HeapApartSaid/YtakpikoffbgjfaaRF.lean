import Derived.Test.YtakpikoffbgjfaaRE
namespace Go.Proofs.Ytakpikoffbgjfaa
open Go.RowKit Go.Maps

theorem whyR_thing {M : RM} {r k : Int} (h : whyR M r k = 0) : ∃ (j : Nat) (t : RT), r = j + 1 ∧ M.l[j]? = some t ∧ t.kind = k ∧ t.gone = false := by
  unfold whyR at h
  split at h
  · cases h
  · split at h
    · cases h
    · rename_i t ht
      split at h
      · cases h
      · rename_i hk
        split at h
        · cases h
        · rename_i hg
          exact ⟨(r - 1).toNat, t, by omega, ht, by simpa using hk, by simpa using hg⟩
def rgetF (M : RM) (r i : Int) : VV × Int :=
  if whyR M r 0 ≠ 0 then (V0, whyR M r 0) else match M.l[(r - 1).toNat]? with
  | none => (V0, 6)
  | some t => if i < 0 ∨ (t.vals.length : Int) ≤ i then (V0, 2) else ((t.vals[i.toNat]?).getD V0, 0)
def RGetRes (w : World) (X : VV × Int) (e : Ending) (w' : World) : Prop := e = .returned (.tuple #[.agg #[I X.1.n, .string X.1.s, I X.1.r], I X.2]) ∧ Below w.heap.size w w'
set_option maxHeartbeats 4000000 in
set_option maxRecDepth 100000 in
theorem rget_any (w : World) (F : Nat → Prop) (p : Nat) (M : RM) (lv : Value) (qs : List RQ) (r i : Int) (h : RmW w F p M lv qs) (hll : M.l.length ≤ 1000000000) :
    Calls Try.prog 36 #[P0 p, I r, I i] w (RGetRes w (rgetF M r i)) := by
  have HWY := Lib.hid (rwhy_any (w.alloc (.cells #[I 0, .string ⟨#[]⟩, I 0] 30)) F p M lv qs r 0 (h.below (below_alloc w _)))
  have HH := Lib.hid (h.below (below_alloc w (.cells #[I 0, .string ⟨#[]⟩, I 0] 30)))
  clear h
  obtain ⟨y, hy⟩ : ∃ y, whyR M r 0 = y := ⟨_, rfl⟩
  have hA : Arr (w.alloc (.cells #[I 0, .string ⟨#[]⟩, I 0] 30)) w.heap.size 30 [I 0, .string ⟨#[]⟩, I 0] := Arr.new w 30 _
  have hB : Below w.heap.size w (w.alloc (.cells #[I 0, .string ⟨#[]⟩, I 0] 30)) := below_alloc w _
  have HA := Lib.hid hA
  have HB := Lib.hid hB
  clear hA hB
  by_cases h0 : y = 0
  · subst h0
    have HY := Lib.hid hy
    obtain ⟨j, t, hr, htt, htk, htg⟩ := whyR_thing hy
    subst hr
    have HVL : Hid (rgetF M ((j : Int) + 1) i = if i < 0 ∨ (t.vals.length : Int) ≤ i then (V0, 2) else ((t.vals[i.toNat]?).getD V0, 0)) := by
      refine Lib.hid ?_
      unfold rgetF; rw [if_neg (by rw [hy]; simp), show ((j : Int) + 1 - 1).toNat = j by omega, htt]
    obtain ⟨g, cap, q, etv, hn1, hn2, hgl, hq, hT, _, k1, _, _, _, _, _⟩ := HH.out.thing htt
    have hjl : j < M.l.length := (List.getElem?_eq_some_iff.1 htt).1
    obtain ⟨nl, hnl⟩ : ∃ n, M.l.length = n := ⟨_, rfl⟩
    rw [hnl] at etv hn1 hll hjl
    subst etv
    obtain ⟨c0, _, _, _, _⟩ := HH.out.cell
    obtain ⟨nv, hnv⟩ : ∃ n, t.vals.length = n := ⟨_, rfl⟩
    have hco := hT.v
    rw [hnv] at hco
    obtain ⟨Ac, cc, ec, hc1, hc2⟩ := (Rd.of_own hco).form
    have HCO := Lib.hid hco
    have HEC := Lib.hid ec
    have HNV := Lib.hid hnv
    rw [ec] at k1
    have hjl2 : (j : Int) < nl := by omega
    have hwi : IntKind.i64.wrap (j : Int) = j := IntWalk.i64_in _ ⟨by omega, by omega⟩
    obtain ⟨W, hW⟩ : ∃ W, w.alloc (.cells #[.int .i64 0, .string ⟨#[]⟩, .int .i64 0] 30) = W := ⟨_, rfl⟩
    rw [hW] at k1 c0 HCO HA HB HWY
    have x0 : W.cell? ⟨w.heap.size, 0, none⟩ = some (I 0) := HA.out.cell 0
    have x1 : W.cell? ⟨w.heap.size, 1, none⟩ = some (.string ⟨#[]⟩) := HA.out.cell 1
    have x2 : W.cell? ⟨w.heap.size, 2, none⟩ = some (I 0) := HA.out.cell 2
    have f0 : W.frozen? ⟨w.heap.size, 0, none⟩ = false := HA.out.frozen 0
    have f1 : W.frozen? ⟨w.heap.size, 1, none⟩ = false := HA.out.frozen 1
    have f2 : W.frozen? ⟨w.heap.size, 2, none⟩ = false := HA.out.frozen 2
    clear hy htt htk htg hnv hq hT ec hnl hco
    by_cases h1 : i < 0
    · have d1 : decide (i < 0) = true := de_t h1
      have e : rgetF M ((j : Int) + 1) i = (V0, 2) := by rw [HVL.out, if_pos (.inl h1)]
      have HE := Lib.hid e
      clear e h1
      go_enter Try.func36, Try.ntmps36
      go_wp2_with fail
      refine HWY.out.mono ?_
      rintro e w1 ⟨rfl, rfl⟩
      rw [HY.out]
      go_wp2
      refine bodyPost_ret (v := .tuple #[.agg #[I 0, .string ⟨#[]⟩, I 0], I 2]) ?_ rfl ⟨by rw [HE.out]; rfl, ?_⟩
      · rw [results_cell_tmp rfl]
        go_simp
      · exact ((HB.out.setCell (Nat.le_refl _) _).setCell (Nat.le_refl _) _).setCell (Nat.le_refl _) _
    · have d1 : decide (i < 0) = false := de_f h1
      by_cases h2 : (nv : Int) ≤ i
      · have d2 : decide ((nv : Int) ≤ i) = true := de_t h2
        have e : rgetF M ((j : Int) + 1) i = (V0, 2) := by rw [HVL.out, if_pos (.inr (by rw [HNV.out]; exact h2))]
        have HE := Lib.hid e
        clear e h1 h2
        go_enter Try.func36, Try.ntmps36
        go_wp2_with fail
        refine HWY.out.mono ?_
        rintro e w1 ⟨rfl, rfl⟩
        rw [HY.out]
        go_wp2
        refine bodyPost_ret (v := .tuple #[.agg #[I 0, .string ⟨#[]⟩, I 0], I 2]) ?_ rfl ⟨by rw [HE.out]; rfl, ?_⟩
        · rw [results_cell_tmp rfl]
          go_simp
        · exact ((HB.out.setCell (Nat.le_refl _) _).setCell (Nat.le_refl _) _).setCell (Nat.le_refl _) _
      · have d2 : decide ((nv : Int) ≤ i) = false := de_f h2
        obtain ⟨k, rfl⟩ : ∃ k : Nat, i = k := ⟨i.toNat, by omega⟩
        have hkl : (k : Int) < nv := by omega
        have hkl' : k < nv := by omega
        obtain ⟨v, hv⟩ : ∃ v, t.vals[k]? = some v := ⟨_, List.getElem?_eq_getElem (by rw [HNV.out]; exact hkl')⟩
        have e : rgetF M ((j : Int) + 1) k = (v, 0) := by rw [HVL.out, if_neg (by rw [HNV.out]; omega), Int.toNat_natCast, hv]; rfl
        have HE := Lib.hid e
        obtain ⟨cb, cap2, e2, _, _⟩ := HCO.out.form (by omega)
        rw [HEC.out] at e2
        cases e2
        obtain ⟨a0, a1, a2⟩ := vvs_at t.vals k v hv
        have cl : ∀ (n : Nat) (u : Value), (vvs t.vals)[n]? = some u → W.cell? ⟨cb, n, none⟩ = some u := fun n u hu => by
          have := HCO.out.cells (g := cb) (by rw [HEC.out]; rfl) n u hu
          rwa [add_plain', Nat.zero_add] at this
        have b0 := cl _ _ a0
        have b1 := cl _ _ a1
        have b2 := cl _ _ a2
        clear e h1 h2 hv cl a0 a1 a2
        go_enter Try.func36, Try.ntmps36
        go_wp2_with fail
        refine HWY.out.mono ?_
        rintro e w1 ⟨rfl, rfl⟩
        rw [HY.out]
        go_wp2
        refine bodyPost_ret (v := .tuple #[.agg #[I v.n, .string v.s, I v.r], I 0]) ?_ rfl ⟨by rw [HE.out], ?_⟩
        · rw [results_cell_tmp rfl]
          go_simp
        · exact ((HB.out.setCell (Nat.le_refl _) _).setCell (Nat.le_refl _) _).setCell (Nat.le_refl _) _
  · have hd : (y != 0) = true := ne_t h0
    have HY := Lib.hid hy
    have e : rgetF M r i = (V0, y) := by unfold rgetF; rw [if_pos (by rw [hy]; exact h0), hy]
    have HE := Lib.hid e
    obtain ⟨W, hW⟩ : ∃ W, w.alloc (.cells #[.int .i64 0, .string ⟨#[]⟩, .int .i64 0] 30) = W := ⟨_, rfl⟩
    rw [hW] at HA HB HWY
    have x0 : W.cell? ⟨w.heap.size, 0, none⟩ = some (I 0) := HA.out.cell 0
    have x1 : W.cell? ⟨w.heap.size, 1, none⟩ = some (.string ⟨#[]⟩) := HA.out.cell 1
    have x2 : W.cell? ⟨w.heap.size, 2, none⟩ = some (I 0) := HA.out.cell 2
    have f0 : W.frozen? ⟨w.heap.size, 0, none⟩ = false := HA.out.frozen 0
    have f1 : W.frozen? ⟨w.heap.size, 1, none⟩ = false := HA.out.frozen 1
    have f2 : W.frozen? ⟨w.heap.size, 2, none⟩ = false := HA.out.frozen 2
    clear hy e h0
    go_enter Try.func36, Try.ntmps36
    go_wp2_with fail
    refine HWY.out.mono ?_
    rintro e w1 ⟨rfl, rfl⟩
    rw [HY.out]
    go_wp2
    refine bodyPost_ret (v := .tuple #[.agg #[I 0, .string ⟨#[]⟩, I 0], I y]) ?_ rfl ⟨by rw [HE.out]; rfl, ?_⟩
    · rw [results_cell_tmp rfl]
      go_simp
    · exact ((HB.out.setCell (Nat.le_refl _) _).setCell (Nat.le_refl _) _).setCell (Nat.le_refl _) _
def rsizeF (M : RM) (r : Int) : Int × Int :=
  if r < 1 then (0, 6) else match M.l[(r - 1).toNat]? with
  | none => (0, 6)
  | some t => if t.gone then (0, 5) else ((t.vals.length : Int) + t.keys.length, 0)
def RSizeRes (w : World) (X : Int × Int) (e : Ending) (w' : World) : Prop := e = .returned (.tuple #[I X.1, I X.2]) ∧ Below w.heap.size w w'
set_option maxHeartbeats 4000000 in
set_option maxRecDepth 100000 in
theorem rsize_any (w : World) (F : Nat → Prop) (p : Nat) (M : RM) (lv : Value) (qs : List RQ) (r : Int) (h : RmW w F p M lv qs) (hvl : ∀ t ∈ M.l, t.vals.length ≤ 1000000000 ∧ t.keys.length ≤ 1000000000) :
    Calls Try.prog 39 #[P0 p, I r] w (RSizeRes w (rsizeF M r)) := by
  have HH := Lib.hid h
  obtain ⟨c0, _, _, _, _⟩ := h.cell
  obtain ⟨nl, hnl⟩ : ∃ n, M.l.length = n := ⟨_, rfl⟩
  have hto := h.row
  rw [hnl] at hto
  obtain ⟨At, ct, rfl, ht1, ht2⟩ := (Rd.of_own hto).form
  have HNL := Lib.hid hnl
  clear h hnl hto
  by_cases h1 : r < 1
  · have d1 : decide (r < 1) = true := de_t h1
    have e : rsizeF M r = (0, 6) := by rw [rsizeF, if_pos h1]
    have HE := Lib.hid e
    clear e h1
    go_enter Try.func39, Try.ntmps39
    go_wp2
    go_ret2
    exact ⟨by rw [HE.out]; rfl, Below.refl _ _⟩
  · have d1 : decide (r < 1) = false := de_f h1
    by_cases h2 : (nl : Int) < r
    · have d2 : decide ((nl : Int) < r) = true := de_t h2
      have e : rsizeF M r = (0, 6) := by rw [rsizeF, if_neg h1, List.getElem?_eq_none (by rw [HNL.out]; omega)]
      have HE := Lib.hid e
      clear e h1 h2
      go_enter Try.func39, Try.ntmps39
      go_wp2
      go_ret2
      exact ⟨by rw [HE.out]; rfl, Below.refl _ _⟩
    · have d2 : decide ((nl : Int) < r) = false := de_f h2
      obtain ⟨j, rfl⟩ : ∃ i : Nat, r = i + 1 := ⟨(r - 1).toNat, by omega⟩
      obtain ⟨t, htt⟩ : ∃ t, M.l[j]? = some t := ⟨_, List.getElem?_eq_getElem (by rw [HNL.out]; omega)⟩
      have e0 : rsizeF M ((j : Int) + 1) = if t.gone then (0, 5) else ((t.vals.length : Int) + t.keys.length, 0) := by
        rw [rsizeF, if_neg (by omega), show ((j : Int) + 1 - 1).toNat = j by omega, htt]
      obtain ⟨hvl1, hvl2⟩ := hvl t (List.mem_of_getElem? htt)
      obtain ⟨g, cap, q, etv, hn1, hn2, hgl, hq, hT, k0, k1, k2, k3, k4, k5, _⟩ := HH.out.thing htt
      rw [HNL.out] at etv
      cases etv
      obtain ⟨tk, htk⟩ : ∃ x, t.kind = x := ⟨_, rfl⟩
      obtain ⟨tf, htf⟩ : ∃ x, t.frame = x := ⟨_, rfl⟩
      obtain ⟨tg, htg⟩ : ∃ x, t.gone = x := ⟨_, rfl⟩
      obtain ⟨nv, hnv⟩ : ∃ x, t.vals.length = x := ⟨_, rfl⟩
      obtain ⟨nk, hnk⟩ : ∃ x, t.keys.length = x := ⟨_, rfl⟩
      obtain ⟨Av, cv, ev, _, _⟩ := (Rd.of_own hT.v).form
      obtain ⟨Ak, ck, ek, _, _⟩ := (Rd.of_own hT.k).form
      obtain ⟨Au, cu, eu, _, _⟩ := (Rd.of_own hT.u).form
      rw [hnv] at ev hvl1
      rw [hnk] at ek eu hvl2
      rw [htk] at k0
      rw [ev] at k1
      rw [ek] at k2
      rw [eu] at k3
      rw [htf] at k4
      rw [htg] at k5
      rw [hnv, hnk, htg] at e0
      have hjl : (j : Int) < nl := by omega
      have hwi : IntKind.i64.wrap (j : Int) = j := IntWalk.i64_in _ ⟨by omega, by omega⟩
      have HE := Lib.hid e0
      clear e0 h1 h2 hvl htt hq hT htk htf htg hnv hnk ev ek eu
      cases tg with
      | true =>
        go_enter Try.func39, Try.ntmps39
        go_wp2
        go_ret2
        exact ⟨by rw [HE.out]; rfl, below_alloc _ _⟩
      | false =>
        go_enter Try.func39, Try.ntmps39
        go_wp2
        go_ret2
        exact ⟨by rw [HE.out]; rfl, below_alloc _ _⟩
end Go.Proofs.Ytakpikoffbgjfaa
