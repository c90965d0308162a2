import Derived.Test.YtakpikoffbgjfaaHF
namespace Go.Proofs.Ytakpikoffbgjfaa
open Go.RowKit

def valF (M : HM) (r i : Int) : Int := if whyF M r false ≠ 0 then whyF M r false else match M.things[(r - 1).toNat]? with
  | some t => if i < 0 ∨ (t.vals.length : Int) ≤ i then 2 else 0
  | none => 6
def ValRes (w : World) (M : HM) (qs : List TQ) (r i : Int) (e : Ending) (w' : World) : Prop :=
  ∃ q ptr, w' = w.drewN q ∧ e = .returned (.tuple #[ptr, I (valF M r i)]) ∧ (valF M r i ≠ 0 → ptr = .pointer none) ∧
    (valF M r i = 0 → ∃ (j k cb : Nat) (t : Th) (x : TQ), r = j + 1 ∧ i = k ∧ M.things[j]? = some t ∧ qs[j]? = some x ∧ x.c.ownBlock = some cb ∧ k < t.vals.length ∧ ptr = .pointer (some ⟨cb, k * 3, none⟩))
set_option maxHeartbeats 4000000 in
set_option maxRecDepth 100000 in
theorem value_any (w : World) (F : Nat → Prop) (p : Nat) (M : HM) (tv fv : Value) (qs : List TQ) (r i : Int) (h : MemW w F p M tv fv qs) (hs : M.frames.Pairwise (· < ·)) (hfl : M.frames.length ≤ 1000000000) (hth : M.things.length ≤ 1000000000) :
    Calls Try.prog 24 #[P0 p, I r, I i] w (ValRes w M qs r i) := by
  have HAT := Lib.hid (at_any w F p M tv fv qs r false h hs hfl hth)
  have HH := Lib.hid h
  clear h hs
  by_cases hw : whyF M r false = 0
  · have HW := Lib.hid hw
    obtain ⟨y, hy⟩ : ∃ y, whyF M r false = y := ⟨_, rfl⟩
    have hy0 : y = 0 := by rw [← hy]; exact hw
    clear hw
    go_enter Try.func24, Try.ntmps24
    go_wp2_with fail
    refine HAT.out.mono ?_
    rintro e w1 ⟨q, ptr, rfl, rfl, _, hp⟩
    obtain ⟨j, g, cap, rfl, hj, rfl, rfl⟩ := hp HW.out
    obtain ⟨t, htt⟩ : ∃ t, M.things[j]? = some t := ⟨_, List.getElem?_eq_getElem hj⟩
    obtain ⟨g', cap', x, etv, hn1, hn2, hgl, hq, hT, k0, _⟩ := HH.out.thing htt
    cases etv
    have hvl : valF M ((j : Int) + 1) i = if i < 0 ∨ (t.vals.length : Int) ≤ i then 2 else 0 := by
      rw [valF, if_neg (by rw [HW.out]; simp), show ((j : Int) + 1 - 1).toNat = j by omega, htt]
    have HVL := Lib.hid hvl
    have HTT := Lib.hid htt
    have HQ := Lib.hid hq
    have hco := hT.cells
    obtain ⟨Ac, cc, ec, hc1, hc2⟩ := (Rd.of_own hco).form
    have k0' : (w.drewN q).cell? ⟨g, j * 4, none⟩ = some (.slice Ac t.vals.length cc) := by rw [← ec]; exact k0
    rw [HW.out]
    clear hp hvl htt hq k0 hj
    by_cases h1 : i < 0
    · have d1 : decide (i < 0) = true := de_t h1
      have e : valF M ((j : Int) + 1) i = 2 := by rw [HVL.out, if_pos (.inl h1)]
      have HE := Lib.hid e
      clear e h1
      go_wp2
      go_ret2
      exact ⟨q, .pointer none, rfl, by rw [HE.out]; rfl, fun _ => rfl, fun h => by rw [HE.out] at h; cases h⟩
    · have d1 : decide (i < 0) = false := de_f h1
      by_cases h2 : (t.vals.length : Int) ≤ i
      · have d2 : decide ((t.vals.length : Int) ≤ i) = true := de_t h2
        have e : valF M ((j : Int) + 1) i = 2 := by rw [HVL.out, if_pos (.inr h2)]
        have HE := Lib.hid e
        clear e h1 h2
        go_wp2
        go_ret2
        exact ⟨q, .pointer none, rfl, by rw [HE.out]; rfl, fun _ => rfl, fun h => by rw [HE.out] at h; cases h⟩
      · have d2 : decide ((t.vals.length : Int) ≤ i) = false := de_f h2
        have e : valF M ((j : Int) + 1) i = 0 := by rw [HVL.out, if_neg (by omega)]
        have HE := Lib.hid e
        obtain ⟨k, rfl⟩ : ∃ k : Nat, i = k := ⟨i.toNat, by omega⟩
        have hkl : (k : Int) < t.vals.length := by omega
        have hkl' : k < t.vals.length := by omega
        obtain ⟨cb, cap2, e2, _, _⟩ := hco.form (by omega)
        rw [ec] at e2
        cases e2
        have HC : Hid (x.c.ownBlock = some cb) := Lib.hid (by rw [ec]; rfl)
        clear e h1 h2 ec hco
        go_wp2
        go_ret2
        exact ⟨q, .pointer (some ⟨cb, k * 3, none⟩), rfl, by rw [HE.out]; rfl, fun h => absurd HE.out h, fun _ => ⟨j, k, cb, t, x, rfl, rfl, HTT.out, HQ.out, HC.out, hkl', rfl⟩⟩
  · have hd : (whyF M r false != 0) = true := ne_t hw
    have e : valF M r i = whyF M r false := by rw [valF, if_pos hw]
    have HE := Lib.hid e
    have HW := Lib.hid hw
    clear e hw
    go_enter Try.func24, Try.ntmps24
    go_wp2_with fail
    refine HAT.out.mono ?_
    rintro e w1 ⟨q, ptr, rfl, rfl, hp, _⟩
    rw [hp HW.out]
    go_wp2
    go_ret2
    exact ⟨q, .pointer none, rfl, by rw [HE.out]; rfl, fun _ => rfl, fun h => absurd (by rw [← HE.out]; exact h) HW.out⟩
end Go.Proofs.Ytakpikoffbgjfaa
