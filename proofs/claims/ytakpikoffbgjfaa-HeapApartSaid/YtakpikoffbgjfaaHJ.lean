import Derived.Test.YtakpikoffbgjfaaHI
namespace Go.Proofs.Ytakpikoffbgjfaa
open Go.RowKit

def sizeF (M : HM) (r : Int) : Int × Int :=
  if whyF M r false ≠ 6 then (if whyF M r false ≠ 0 then (0, whyF M r false) else (((M.things[(r - 1).toNat]?.map fun t => t.vals.length).getD 0 : Nat), 0))
  else if whyF M r true ≠ 0 then (0, whyF M r true) else (((M.things[(r - 1).toNat]?.map fun t => t.keys.length).getD 0 : Nat), 0)
def SizeRes (w : World) (M : HM) (r : Int) (e : Ending) (w' : World) : Prop := ∃ q, w' = w.drewN q ∧ e = .returned (.tuple #[I (sizeF M r).1, I (sizeF M r).2])
set_option maxHeartbeats 4000000 in
set_option maxRecDepth 100000 in
theorem size_any (w : World) (F : Nat → Prop) (p : Nat) (M : HM) (tv fv : Value) (qs : List TQ) (r : Int) (h : MemW w F p M tv fv qs) (hs : M.frames.Pairwise (· < ·)) (hfl : M.frames.length ≤ 1000000000) (hth : M.things.length ≤ 1000000000) :
    Calls Try.prog 17 #[P0 p, I r] w (SizeRes w M r) := by
  have HAT := Lib.hid (at_any w F p M tv fv qs r false h hs hfl hth)
  have HAT2 : Hid (∀ q, Calls Try.prog 25 #[P0 p, I r, .bool true] (w.drewN q) (AtRes (w.drewN q) M tv r true)) := Lib.hid (fun q => at_any (w.drewN q) F p M tv fv qs r true (h.drewN q) hs hfl hth)
  have HH := Lib.hid h
  clear h hs
  obtain ⟨y, hy⟩ : ∃ y, whyF M r false = y := ⟨_, rfl⟩
  by_cases h6 : y = 6
  · subst h6
    obtain ⟨z, hz⟩ : ∃ z, whyF M r true = z := ⟨_, rfl⟩
    by_cases hz0 : z = 0
    · subst hz0
      have HY := Lib.hid hy
      have HZ := Lib.hid hz
      clear hy hz
      go_enter Try.func17, Try.ntmps17
      go_wp2_with fail
      refine HAT.out.mono ?_
      rintro e w1 ⟨q, ptr, rfl, rfl, hp, _⟩
      rw [hp (by rw [HY.out]; simp), HY.out]
      clear hp
      go_wp2_with fail
      refine (HAT2.out q).mono ?_
      rintro e w1 ⟨q2, ptr, rfl, rfl, _, hp⟩
      rw [HZ.out]
      obtain ⟨j, g, cap, rfl, hj, rfl, rfl⟩ := hp HZ.out
      obtain ⟨t, htt⟩ : ∃ t, M.things[j]? = some t := ⟨_, List.getElem?_eq_getElem hj⟩
      obtain ⟨g', cap', x, etv, hn1, hn2, hgl, hq, hT, _, k1, _⟩ := HH.out.thing htt
      cases etv
      obtain ⟨Ac, cc, ec, hc1, hc2⟩ := (Rd.of_own hT.keys).form
      have k1' : (w.drewN (q + q2)).cell? ⟨g, j * 4 + 1, none⟩ = some (.slice Ac t.keys.length cc) := by rw [← ec]; exact k1
      have hsz : sizeF M ((j : Int) + 1) = ((t.keys.length : Int), 0) := by
        unfold sizeF; rw [ if_neg (by rw [HY.out]; simp), if_neg (by rw [HZ.out]; simp), show ((j : Int) + 1 - 1).toNat = j by omega, htt]; rfl
      have HSZ := Lib.hid hsz
      clear hp k1 hq htt hj hT ec hsz
      go_wp2
      go_ret2
      exact ⟨q + q2, rfl, by rw [HSZ.out]; rfl⟩
    · have hd : (z != 0) = true := ne_t hz0
      have HY := Lib.hid hy
      have HZ := Lib.hid hz
      have HZ0 := Lib.hid hz0
      clear hy hz hz0
      go_enter Try.func17, Try.ntmps17
      go_wp2_with fail
      refine HAT.out.mono ?_
      rintro e w1 ⟨q, ptr, rfl, rfl, hp, _⟩
      rw [hp (by rw [HY.out]; simp), HY.out]
      clear hp
      go_wp2_with fail
      refine (HAT2.out q).mono ?_
      rintro e w1 ⟨q2, ptr, rfl, rfl, hp, _⟩
      rw [hp (by rw [HZ.out]; exact HZ0.out), HZ.out]
      clear hp
      have hsz : sizeF M r = (0, z) := by unfold sizeF; rw [ if_neg (by rw [HY.out]; simp), if_pos (by rw [HZ.out]; exact HZ0.out), HZ.out]
      have HSZ := Lib.hid hsz
      clear hsz
      go_wp2
      go_ret2
      exact ⟨q + q2, rfl, by rw [HSZ.out]; rfl⟩
  · have hd6 : (y != 6) = true := ne_t h6
    by_cases h0 : y = 0
    · subst h0
      have HY := Lib.hid hy
      clear hy
      go_enter Try.func17, Try.ntmps17
      go_wp2_with fail
      refine HAT.out.mono ?_
      rintro e w1 ⟨q, ptr, rfl, rfl, _, hp⟩
      rw [HY.out]
      obtain ⟨j, g, cap, rfl, hj, rfl, rfl⟩ := hp HY.out
      obtain ⟨t, htt⟩ : ∃ t, M.things[j]? = some t := ⟨_, List.getElem?_eq_getElem hj⟩
      obtain ⟨g', cap', x, etv, hn1, hn2, hgl, hq, hT, k0, _⟩ := HH.out.thing htt
      cases etv
      obtain ⟨Ac, cc, ec, hc1, hc2⟩ := (Rd.of_own hT.cells).form
      have k0' : (w.drewN q).cell? ⟨g, j * 4, none⟩ = some (.slice Ac t.vals.length cc) := by rw [← ec]; exact k0
      have hsz : sizeF M ((j : Int) + 1) = ((t.vals.length : Int), 0) := by
        unfold sizeF; rw [ if_pos (by rw [HY.out]; simp), if_neg (by rw [HY.out]; simp), show ((j : Int) + 1 - 1).toNat = j by omega, htt]; rfl
      have HSZ := Lib.hid hsz
      clear hp k0 hq htt hj hT ec hsz
      go_wp2
      go_ret2
      exact ⟨q, rfl, by rw [HSZ.out]; rfl⟩
    · have hd0 : (y != 0) = true := ne_t h0
      have HY := Lib.hid hy
      have hsz : sizeF M r = (0, y) := by unfold sizeF; rw [ if_pos (by rw [hy]; exact h6), if_pos (by rw [hy]; exact h0), hy]
      have HSZ := Lib.hid hsz
      have HY0 := Lib.hid h0
      clear hy hsz h0 h6
      go_enter Try.func17, Try.ntmps17
      go_wp2_with fail
      refine HAT.out.mono ?_
      rintro e w1 ⟨q, ptr, rfl, rfl, hp, _⟩
      rw [hp (by rw [HY.out]; exact HY0.out), HY.out]
      clear hp
      go_wp2
      go_ret2
      exact ⟨q, rfl, by rw [HSZ.out]; rfl⟩
end Go.Proofs.Ytakpikoffbgjfaa
