import Derived.Test.YtakpikoffbgjfaaRF
namespace Go.Proofs.Ytakpikoffbgjfaa
open Go.RowKit Go.Maps

theorem RtW.ulen {w : World} {F : Nat → Prop} {t : RT} {q : RQ} (h : RtW w F t q) : t.under.length = t.keys.length := by
  have := h.u.1
  simpa [ints] using this
def rkeyF (M : RM) (r i : Int) : Int × Int :=
  if whyR M r 1 ≠ 0 then (0, whyR M r 1) else match M.l[(r - 1).toNat]? with
  | none => (0, 6)
  | some t => if i < 0 ∨ (t.keys.length : Int) ≤ i then (0, 2) else ((t.keys[i.toNat]?).getD 0, 0)
set_option maxHeartbeats 4000000 in
set_option maxRecDepth 100000 in
theorem rkey_any (w : World) (F : Nat → Prop) (p : Nat) (M : RM) (lv : Value) (qs : List RQ) (r i : Int) (h : RmW w F p M lv qs) (hll : M.l.length ≤ 1000000000) :
    Calls Try.prog 42 #[P0 p, I r, I i] w (RSizeRes w (rkeyF M r i)) := by
  have HWY := Lib.hid (rwhy_any w F p M lv qs r 1 h)
  have HH := Lib.hid h
  clear h
  obtain ⟨y, hy⟩ : ∃ y, whyR M r 1 = y := ⟨_, rfl⟩
  by_cases h0 : y = 0
  · subst h0
    have HY := Lib.hid hy
    obtain ⟨j, t, hr, htt, htk, htg⟩ := whyR_thing hy
    subst hr
    have HVL : Hid (rkeyF M ((j : Int) + 1) i = if i < 0 ∨ (t.keys.length : Int) ≤ i then (0, 2) else ((t.keys[i.toNat]?).getD 0, 0)) := by
      refine Lib.hid ?_
      unfold rkeyF; rw [if_neg (by rw [hy]; simp), show ((j : Int) + 1 - 1).toNat = j by omega, htt]
    obtain ⟨g, cap, q, etv, hn1, hn2, hgl, hq, hT, _, _, k2, _, _, _, _⟩ := HH.out.thing htt
    have hjl : j < M.l.length := (List.getElem?_eq_some_iff.1 htt).1
    obtain ⟨nl, hnl⟩ : ∃ n, M.l.length = n := ⟨_, rfl⟩
    rw [hnl] at etv hn1 hll hjl
    subst etv
    obtain ⟨c0, _, _, _, _⟩ := HH.out.cell
    obtain ⟨nv, hnv⟩ : ∃ n, t.keys.length = n := ⟨_, rfl⟩
    have hco := hT.k
    rw [hnv] at hco
    obtain ⟨Ac, cc, ec, hc1, hc2⟩ := (Rd.of_own hco).form
    have HCO := Lib.hid hco
    have HEC := Lib.hid ec
    have HNV := Lib.hid hnv
    rw [ec] at k2
    have hjl2 : (j : Int) < nl := by omega
    have hwi : IntKind.i64.wrap (j : Int) = j := IntWalk.i64_in _ ⟨by omega, by omega⟩
    clear hy htt htk htg hnv hq hT ec hnl hco
    by_cases h1 : i < 0
    · have d1 : decide (i < 0) = true := de_t h1
      have e : rkeyF M ((j : Int) + 1) i = (0, 2) := by rw [HVL.out, if_pos (.inl h1)]
      have HE := Lib.hid e
      clear e h1
      go_enter Try.func42, Try.ntmps42
      go_wp2_with fail
      refine HWY.out.mono ?_
      rintro e w1 ⟨rfl, rfl⟩
      rw [HY.out]
      go_wp2
      go_ret2
      exact ⟨by rw [HE.out]; rfl, Below.refl _ _⟩
    · have d1 : decide (i < 0) = false := de_f h1
      by_cases h2 : (nv : Int) ≤ i
      · have d2 : decide ((nv : Int) ≤ i) = true := de_t h2
        have e : rkeyF M ((j : Int) + 1) i = (0, 2) := by rw [HVL.out, if_pos (.inr (by rw [HNV.out]; exact h2))]
        have HE := Lib.hid e
        clear e h1 h2
        go_enter Try.func42, Try.ntmps42
        go_wp2_with fail
        refine HWY.out.mono ?_
        rintro e w1 ⟨rfl, rfl⟩
        rw [HY.out]
        go_wp2
        go_ret2
        exact ⟨by rw [HE.out]; rfl, Below.refl _ _⟩
      · have d2 : decide ((nv : Int) ≤ i) = false := de_f h2
        obtain ⟨k, rfl⟩ : ∃ k : Nat, i = k := ⟨i.toNat, by omega⟩
        have hkl : (k : Int) < nv := by omega
        have hkl' : k < nv := by omega
        obtain ⟨v, hv⟩ : ∃ v, t.keys[k]? = some v := ⟨_, List.getElem?_eq_getElem (by rw [HNV.out]; exact hkl')⟩
        have e : rkeyF M ((j : Int) + 1) k = (v, 0) := by rw [HVL.out, if_neg (by rw [HNV.out]; omega), Int.toNat_natCast, hv]; rfl
        have HE := Lib.hid e
        obtain ⟨cb, cap2, e2, _, _⟩ := HCO.out.form (by omega)
        rw [HEC.out] at e2
        cases e2
        have b0 : w.cell? ⟨cb, k, none⟩ = some (I v) := by
          have := HCO.out.cells (g := cb) (by rw [HEC.out]; rfl) k (I v) (by simp [ints, hv])
          rwa [add_plain', Nat.zero_add] at this
        clear e h1 h2 hv
        go_enter Try.func42, Try.ntmps42
        go_wp2_with fail
        refine HWY.out.mono ?_
        rintro e w1 ⟨rfl, rfl⟩
        rw [HY.out]
        go_wp2
        go_ret2
        exact ⟨by rw [HE.out]; rfl, Below.refl _ _⟩
  · have hd : (y != 0) = true := ne_t h0
    have HY := Lib.hid hy
    have e : rkeyF M r i = (0, y) := by unfold rkeyF; rw [if_pos (by rw [hy]; exact h0), hy]
    have HE := Lib.hid e
    clear hy e h0
    go_enter Try.func42, Try.ntmps42
    go_wp2_with fail
    refine HWY.out.mono ?_
    rintro e w1 ⟨rfl, rfl⟩
    rw [HY.out]
    go_wp2
    go_ret2
    exact ⟨by rw [HE.out]; rfl, Below.refl _ _⟩
def rlookF (M : RM) (r key : Int) : Int × Int :=
  if whyR M r 1 ≠ 0 then (0, whyR M r 1) else match M.l[(r - 1).toNat]? with
  | none => (0, 6)
  | some t => if 0 ≤ findR t.keys key then ((t.under[(findR t.keys key).toNat]?).getD 0, 0) else (0, 0)
theorem findR_lt {l : List Int} {k : Int} (h : 0 ≤ findR l k) : ∃ x : Nat, findR l k = x ∧ x < l.length := by
  unfold findR at h ⊢
  split at h
  · rename_i hm
    rw [if_pos hm]
    exact ⟨_, rfl, List.idxOf_lt_length_of_mem hm⟩
  · omega
set_option maxHeartbeats 4000000 in
set_option maxRecDepth 100000 in
theorem rlook_any (w : World) (F : Nat → Prop) (p : Nat) (M : RM) (lv : Value) (qs : List RQ) (r key : Int) (h : RmW w F p M lv qs) (hll : M.l.length ≤ 1000000000) (hvl : ∀ t ∈ M.l, t.keys.length ≤ 1000000000) :
    Calls Try.prog 41 #[P0 p, I r, I key] w (RSizeRes w (rlookF M r key)) := by
  have HWY := Lib.hid (rwhy_any w F p M lv qs r 1 h)
  have HH := Lib.hid h
  clear h
  obtain ⟨y, hy⟩ : ∃ y, whyR M r 1 = y := ⟨_, rfl⟩
  by_cases h0 : y = 0
  · subst h0
    have HY := Lib.hid hy
    obtain ⟨j, t, hr, htt, htk, htg⟩ := whyR_thing hy
    subst hr
    have HVL : Hid (rlookF M ((j : Int) + 1) key = if 0 ≤ findR t.keys key then ((t.under[(findR t.keys key).toNat]?).getD 0, 0) else (0, 0)) := by
      refine Lib.hid ?_
      unfold rlookF; rw [if_neg (by rw [hy]; simp), show ((j : Int) + 1 - 1).toNat = j by omega, htt]
    obtain ⟨g, cap, q, etv, hn1, hn2, hgl, hq, hT, k0, k1, k2, k3, k4, k5, _⟩ := HH.out.thing htt
    have hjl : j < M.l.length := (List.getElem?_eq_some_iff.1 htt).1
    obtain ⟨nl, hnl⟩ : ∃ n, M.l.length = n := ⟨_, rfl⟩
    rw [hnl] at etv hn1 hll hjl
    subst etv
    obtain ⟨c0, _, _, _, _⟩ := HH.out.cell
    obtain ⟨tf, htf⟩ : ∃ x, t.frame = x := ⟨_, rfl⟩
    obtain ⟨tki, htki⟩ : ∃ x, t.kind = x := ⟨_, rfl⟩
    obtain ⟨nv, hnv⟩ : ∃ x, t.vals.length = x := ⟨_, rfl⟩
    obtain ⟨nk, hnk⟩ : ∃ x, t.keys.length = x := ⟨_, rfl⟩
    have hvk := hvl t (List.mem_of_getElem? htt)
    have HUL := Lib.hid hT.ulen
    have hko := hT.k
    have huo := hT.u
    obtain ⟨Av, cv, ev, _, _⟩ := (Rd.of_own hT.v).form
    obtain ⟨Ak, ck, ek, _, _⟩ := (Rd.of_own hko).form
    obtain ⟨Au, cu, eu, _, _⟩ := (Rd.of_own huo).form
    rw [ek] at hko
    rw [eu] at huo
    rw [hnv] at ev
    have HKO := Lib.hid ((Rd.of_own hko).alloc (.cells #[I tki, .slice Av nv cv, .slice Ak nk ck, .slice Au nk cu, I tf, .bool false] 77))
    have HUO := Lib.hid huo
    rw [hnk] at ek eu HUO
    have HNK := Lib.hid hnk
    rw [htki] at k0
    rw [ev] at k1
    rw [ek] at k2
    rw [eu] at k3
    rw [htf] at k4
    rw [htg] at k5
    have hjl2 : (j : Int) < nl := by omega
    have hwi : IntKind.i64.wrap (j : Int) = j := IntWalk.i64_in _ ⟨by omega, by omega⟩
    have HF2 := Lib.hid (rfind_any (w.alloc (.cells #[I tki, .slice Av nv cv, .slice Ak nk ck, .slice Au nk cu, I tf, .bool false] 77)) (.slice Ak t.keys.length ck) t.keys key HKO.out hvk)
    rw [hnk] at HF2
    clear hy htt htk htg hnv hq hT ev ek eu hnl hko huo htf htki hnk hvk hvl HKO
    obtain ⟨x, hx⟩ : ∃ x, findR t.keys key = x := ⟨_, rfl⟩
    by_cases hx0 : 0 ≤ x
    · obtain ⟨xn, hxn1, hxn2⟩ := findR_lt (l := t.keys) (k := key) (by rw [hx]; exact hx0)
      obtain rfl : x = xn := by rw [← hx, hxn1]
      have dx : decide (0 ≤ (xn : Int)) = true := de_t (by omega)
      have hxk : xn < nk := by rw [← HNK.out]; exact hxn2
      have hxk' : (xn : Int) < nk := by omega
      obtain ⟨v, hv⟩ : ∃ v, t.under[xn]? = some v := ⟨_, List.getElem?_eq_getElem (by rw [HUL.out, HNK.out]; exact hxk)⟩
      have e : rlookF M ((j : Int) + 1) key = (v, 0) := by rw [HVL.out, hx, if_pos (by omega), Int.toNat_natCast, hv]; rfl
      have HE := Lib.hid e
      obtain ⟨ub, cap2, e2, _, hub⟩ := HUO.out.form (by omega)
      cases e2
      have b0 : w.cell? ⟨ub, xn, none⟩ = some (I v) := by
        have := HUO.out.cells (g := ub) rfl xn (I v) (by simp [ints, hv])
        rwa [add_plain', Nat.zero_add] at this
      have HX := Lib.hid hx
      clear e hx hv hxn1 hxn2 hxk
      go_enter Try.func41, Try.ntmps41
      go_wp2_with fail
      refine HWY.out.mono ?_
      rintro e w1 ⟨rfl, rfl⟩
      rw [HY.out]
      go_wp2_with fail
      refine HF2.out.mono ?_
      rintro e w1 ⟨rfl, rfl⟩
      rw [HX.out]
      go_wp2
      go_ret2
      exact ⟨by rw [HE.out]; rfl, below_alloc _ _⟩
    · have dx : decide (0 ≤ x) = false := de_f hx0
      have e : rlookF M ((j : Int) + 1) key = (0, 0) := by rw [HVL.out, hx, if_neg hx0]
      have HE := Lib.hid e
      have HX := Lib.hid hx
      clear e hx hx0
      go_enter Try.func41, Try.ntmps41
      go_wp2_with fail
      refine HWY.out.mono ?_
      rintro e w1 ⟨rfl, rfl⟩
      rw [HY.out]
      go_wp2_with fail
      refine HF2.out.mono ?_
      rintro e w1 ⟨rfl, rfl⟩
      rw [HX.out]
      go_wp2
      go_ret2
      exact ⟨by rw [HE.out]; rfl, below_alloc _ _⟩
  · have hd : (y != 0) = true := ne_t h0
    have HY := Lib.hid hy
    have e : rlookF M r key = (0, y) := by unfold rlookF; rw [if_pos (by rw [hy]; exact h0), hy]
    have HE := Lib.hid e
    clear hy e h0
    go_enter Try.func41, Try.ntmps41
    go_wp2_with fail
    refine HWY.out.mono ?_
    rintro e w1 ⟨rfl, rfl⟩
    rw [HY.out]
    go_wp2
    go_ret2
    exact ⟨by rw [HE.out]; rfl, Below.refl _ _⟩
end Go.Proofs.Ytakpikoffbgjfaa
