import Derived.Test.YtakpikoffbgjfaaHJ
namespace Go.Proofs.Ytakpikoffbgjfaa
open Go.RowKit Go.Maps

theorem K2 : Maps.Keyed Try.prog 2 := Maps.int_keyed (q := .i64) Try.underlying2
theorem wf64 {x : Int} (h : IntKind.i64.min ≤ x ∧ x ≤ IntKind.i64.max) : (Lit.int .i64 x).wf = true := by
  simp only [Lit.wf, Bool.and_eq_true, decide_eq_true_eq]; exact h
theorem why_tab {M : HM} {r : Int} {b : Bool} {j : Nat} {t : Th} (h : whyF M r b = 0) (hr : r = j + 1) (ht : M.things[j]? = some t) : t.tab = b := by
  subst hr
  unfold whyF at h
  split at h
  · cases h
  · rw [show ((j : Int) + 1 - 1).toNat = j by omega, ht] at h
    simp only at h
    split at h
    · assumption
    · cases h
theorem why_thing {M : HM} {r : Int} {b : Bool} (h : whyF M r b = 0) : ∃ (j : Nat) (t : Th), r = j + 1 ∧ M.things[j]? = some t := by
  unfold whyF at h
  split at h
  · cases h
  · split at h
    · cases h
    · rename_i t ht
      exact ⟨(r - 1).toNat, t, by omega, ht⟩
/-- The map of a table. -/
theorem ThW.table {w : World} {F : Nat → Prop} {t : Th} {q : TQ} (h : ThW w F t q) (ht : t.tab = true) : ∃ (b : Nat) (D : DataW Unit), q.m = .map (some b) ∧ F b ∧ w.ownsMap Try.prog 2 (plainElem Try.prog 2) b t.keys.length D ∧ Maps.size D = t.keys.length ∧
    ∀ x : Int, (Lit.int .i64 x).wf = true → Maps.has D (.int .i64 x) = decide (x ∈ t.keys) ∧ D.atKey (.int .i64 x) (.lit (.int .i64 0)) = .lit (.int .i64 (t.under x)) := by
  rcases h.map with ⟨e, _⟩ | ⟨_, b, D, e1, e2, e3, e4, e5⟩
  · rw [ht] at e; cases e
  · exact ⟨b, D, e1, e2, e3, e4, e5⟩
def lookF (M : HM) (r key : Int) : Int × Int :=
  if whyF M r true ≠ 0 then (0, whyF M r true) else (((M.things[(r - 1).toNat]?).map fun t => t.under key).getD 0, 0)
def LookRes (w : World) (X : Int × Int) (e : Ending) (w' : World) : Prop := ∃ q, w' = w.drewN q ∧ e = .returned (.tuple #[I X.1, I X.2])
set_option maxHeartbeats 4000000 in
set_option maxRecDepth 100000 in
theorem look_any (w : World) (F : Nat → Prop) (p : Nat) (M : HM) (tv fv : Value) (qs : List TQ) (r key : Int) (h : MemW w F p M tv fv qs) (hs : M.frames.Pairwise (· < ·)) (hfl : M.frames.length ≤ 1000000000) (hth : M.things.length ≤ 1000000000) (hk : (Lit.int .i64 key).wf = true) :
    Calls Try.prog 15 #[P0 p, I r, I key] w (LookRes w (lookF M r key)) := by
  have HAT := Lib.hid (at_any w F p M tv fv qs r true h hs hfl hth)
  have HH := Lib.hid h
  clear h hs
  obtain ⟨y, hy⟩ : ∃ y, whyF M r true = y := ⟨_, rfl⟩
  by_cases h0 : y = 0
  · subst h0
    have HY := Lib.hid hy
    clear hy
    go_enter Try.func15, Try.ntmps15
    go_wp2_with fail
    refine HAT.out.mono ?_
    rintro e w1 ⟨q, ptr, rfl, rfl, _, hp⟩
    rw [HY.out]
    obtain ⟨j, g, cap, rfl, hj, rfl, rfl⟩ := hp HY.out
    obtain ⟨t, htt⟩ : ∃ t, M.things[j]? = some t := ⟨_, List.getElem?_eq_getElem hj⟩
    obtain ⟨g', cap', x, etv, hn1, hn2, hgl, hq, hT, _, _, k2, _⟩ := HH.out.thing htt
    cases etv
    obtain ⟨b, D, em, hFb, hown, hsz, hD⟩ := hT.table (why_tab HY.out rfl htt)
    have k2' : (w.drewN q).cell? ⟨g, j * 4 + 2, none⟩ = some (.map (some b)) := by rw [← em]; exact k2
    obtain ⟨c, hrun, hat, hwc⟩ := (show (w.drewN q).ownsMap Try.prog 2 (plainElem Try.prog 2) b t.keys.length D from hown).lookup_int (q := .i64) K2 Try.underlying62 Try.underlying2 (by kernel_rfl) (Maps.keyOf_int_mk Try.underlying2 hk)
    have hc : c = t.under key := by
      have := (hD key hk).2
      rw [hat] at this
      cases this; rfl
    have hsz : lookF M ((j : Int) + 1) key = (c, 0) := by
      unfold lookF; rw [if_neg (by rw [HY.out]; simp), show ((j : Int) + 1 - 1).toNat = j by omega, htt, hc]; rfl
    have HSZ := Lib.hid hsz
    clear hp k2 hq htt hj hT hown hD hat hwc hc hsz em
    go_wp2
    go_ret2
    exact ⟨q, rfl, by rw [HSZ.out]; rfl⟩
  · have hd0 : (y != 0) = true := ne_t h0
    have HY := Lib.hid hy
    have hsz : lookF M r key = (0, y) := by unfold lookF; rw [if_pos (by rw [hy]; exact h0), hy]
    have HSZ := Lib.hid hsz
    have HY0 := Lib.hid h0
    clear hy hsz h0
    go_enter Try.func15, Try.ntmps15
    go_wp2_with fail
    refine HAT.out.mono ?_
    rintro e w1 ⟨q, ptr, rfl, rfl, hp, _⟩
    rw [hp (by rw [HY.out]; exact HY0.out), HY.out]
    clear hp
    go_wp2
    go_ret2
    exact ⟨q, rfl, by rw [HSZ.out]; rfl⟩
def keyF (M : HM) (r i : Int) : Int × Int :=
  if whyF M r true ≠ 0 then (0, whyF M r true) else match M.things[(r - 1).toNat]? with
  | none => (0, 6)
  | some t => if i < 0 ∨ (t.keys.length : Int) ≤ i then (0, 2) else ((t.keys[i.toNat]?).getD 0, 0)
set_option maxHeartbeats 4000000 in
set_option maxRecDepth 100000 in
theorem key_any (w : World) (F : Nat → Prop) (p : Nat) (M : HM) (tv fv : Value) (qs : List TQ) (r i : Int) (h : MemW w F p M tv fv qs) (hs : M.frames.Pairwise (· < ·)) (hfl : M.frames.length ≤ 1000000000) (hth : M.things.length ≤ 1000000000) :
    Calls Try.prog 16 #[P0 p, I r, I i] w (LookRes w (keyF M r i)) := by
  have HAT := Lib.hid (at_any w F p M tv fv qs r true h hs hfl hth)
  have HH := Lib.hid h
  clear h hs
  obtain ⟨y, hy⟩ : ∃ y, whyF M r true = y := ⟨_, rfl⟩
  by_cases h0 : y = 0
  · subst h0
    have HY := Lib.hid hy
    clear hy
    go_enter Try.func16, Try.ntmps16
    go_wp2_with fail
    refine HAT.out.mono ?_
    rintro e w1 ⟨q, ptr, rfl, rfl, _, hp⟩
    rw [HY.out]
    obtain ⟨j, g, cap, rfl, hj, rfl, rfl⟩ := hp HY.out
    obtain ⟨t, htt⟩ : ∃ t, M.things[j]? = some t := ⟨_, List.getElem?_eq_getElem hj⟩
    obtain ⟨g', cap', x, etv, hn1, hn2, hgl, hq, hT, _, k1, _⟩ := HH.out.thing htt
    cases etv
    have hvl : keyF M ((j : Int) + 1) i = if i < 0 ∨ (t.keys.length : Int) ≤ i then (0, 2) else ((t.keys[i.toNat]?).getD 0, 0) := by
      unfold keyF; rw [if_neg (by rw [HY.out]; simp), show ((j : Int) + 1 - 1).toNat = j by omega, htt]
    have HVL := Lib.hid hvl
    have hco := hT.keys
    obtain ⟨Ac, cc, ec, hc1, hc2⟩ := (Rd.of_own hco).form
    have k1' : (w.drewN q).cell? ⟨g, j * 4 + 1, none⟩ = some (.slice Ac t.keys.length cc) := by rw [← ec]; exact k1
    clear hp hvl htt hq k1 hj
    by_cases h1 : i < 0
    · have d1 : decide (i < 0) = true := de_t h1
      have e : keyF M ((j : Int) + 1) i = (0, 2) := by rw [HVL.out, if_pos (.inl h1)]
      have HE := Lib.hid e
      clear e h1
      go_wp2
      go_ret2
      exact ⟨q, rfl, by rw [HE.out]; rfl⟩
    · have d1 : decide (i < 0) = false := de_f h1
      by_cases h2 : (t.keys.length : Int) ≤ i
      · have d2 : decide ((t.keys.length : Int) ≤ i) = true := de_t h2
        have e : keyF M ((j : Int) + 1) i = (0, 2) := by rw [HVL.out, if_pos (.inr h2)]
        have HE := Lib.hid e
        clear e h1 h2
        go_wp2
        go_ret2
        exact ⟨q, rfl, by rw [HE.out]; rfl⟩
      · have d2 : decide ((t.keys.length : Int) ≤ i) = false := de_f h2
        obtain ⟨k, rfl⟩ : ∃ k : Nat, i = k := ⟨i.toNat, by omega⟩
        have hkl : (k : Int) < t.keys.length := by omega
        have hkl' : k < t.keys.length := by omega
        obtain ⟨v, hv⟩ : ∃ v, t.keys[k]? = some v := ⟨_, List.getElem?_eq_getElem hkl'⟩
        have e : keyF M ((j : Int) + 1) k = (v, 0) := by rw [HVL.out, if_neg (by omega), Int.toNat_natCast, hv]; rfl
        have HE := Lib.hid e
        obtain ⟨cb, cap2, e2, _, _⟩ := hco.form (by omega)
        rw [ec] at e2
        cases e2
        have b0 : (w.drewN q).cell? ⟨cb, k, none⟩ = some (I v) := by
          have := hco.cells (g := cb) (by rw [ec]; rfl) k (I v) (by simp [ints, hv])
          rwa [add_plain', Nat.zero_add] at this
        clear e h1 h2 ec hco hT hv
        go_wp2
        go_ret2
        exact ⟨q, rfl, by rw [HE.out]; rfl⟩
  · have hd0 : (y != 0) = true := ne_t h0
    have HY := Lib.hid hy
    have hsz : keyF M r i = (0, y) := by unfold keyF; rw [if_pos (by rw [hy]; exact h0), hy]
    have HSZ := Lib.hid hsz
    have HY0 := Lib.hid h0
    clear hy hsz h0
    go_enter Try.func16, Try.ntmps16
    go_wp2_with fail
    refine HAT.out.mono ?_
    rintro e w1 ⟨q, ptr, rfl, rfl, hp, _⟩
    rw [hp (by rw [HY.out]; exact HY0.out), HY.out]
    clear hp
    go_wp2
    go_ret2
    exact ⟨q, rfl, by rw [HSZ.out]; rfl⟩
end Go.Proofs.Ytakpikoffbgjfaa
