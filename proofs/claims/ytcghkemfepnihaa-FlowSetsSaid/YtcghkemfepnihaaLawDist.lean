import Derived.Test.YtcghkemfepnihaaBfsW
import Derived.Test.YtcghkemfepnihaaRefReach
import Derived.Test.YtcghkemfepnihaaLives
namespace Go.Proofs.Ytcghkemfepnihaa
open Go.RowKit

set_option maxHeartbeats 400000 in
theorem ints_any (w : World) (v1 v2 : Value) (xs ys : List Int) (h1 : Rd w v1 xs.length (ints xs)) (h2 : Rd w v2 ys.length (ints ys)) :
    Calls Try.prog 19 #[v1, v2] w fun e w' => e = .returned (.bool (sameI xs ys)) ∧ Below w.heap.size w w' := by
  obtain ⟨A1, c1, rfl, hm1⟩ := h1.form
  obtain ⟨A2, c2, rfl, hm2⟩ := h2.form
  by_cases hle : xs.length = ys.length
  · have he : ((xs.length : Int) != ys.length) = false := ne_f (by omega)
    have hl1 := Lib.hid hle
    have hx := Lib.hid h1
    have hy := Lib.hid h2
    clear hle h1 h2
    go_enter Try.func19, Try.ntmps19
    go_wp2
    go_loopw [5] (fun i wr => ∃ k : Nat, k ≤ xs.length ∧ i = .int .i64 k ∧ xs.take k = ys.take k ∧ Below w.heap.size w wr) (fun i _ => xs.length - (intOf i).toNat)
    case atStart => exact ⟨0, Nat.zero_le _, rfl, by simp, Below.refl _ _⟩
    case round =>
      obtain ⟨k, hk, rfl, hsame, hB⟩ := hrel
      have hsm := Lib.hid hsame
      clear hsame
      by_cases hlt : k < xs.length
      · have hlt2 : k < ys.length := by have := hl1.out; omega
        obtain ⟨b1, o1, _, e1, _, hb1, g1⟩ := hx.out.elem (by simp; omega)
        obtain ⟨b2, o2, _, e2, _, hb2, g2⟩ := hy.out.elem (by simp; omega)
        cases e1
        cases e2
        have f1 : wr.cell? ⟨b1, o1 + k, none⟩ = some (I xs[k]) := (hB.cell (p := ⟨b1, o1 + k, none⟩) hb1).trans (g1 k _ (ints_at xs k hlt))
        have f2 : wr.cell? ⟨b2, o2 + k, none⟩ = some (I ys[k]) := (hB.cell (p := ⟨b2, o2 + k, none⟩) hb2).trans (g2 k _ (ints_at ys k hlt2))
        clear g1 g2
        by_cases hxy : xs[k] = ys[k]
        · have hxy' : (xs[k] != ys[k]) = false := by simp [hxy]
          have hxyH := Lib.hid hxy
          clear hxy
          go_wp2
          go_quiet (fail)
          go_wp2
          go_roundw
          case rel => exact ⟨k + 1, by omega, by go_num, take_next hsm.out hlt hlt2 hxyH.out, below_drewN hB _⟩
          case measure => simp [intOf]; omega
        · have hxy' : (xs[k] != ys[k]) = true := by simp [hxy]
          have hne : sameI xs ys = false := by
            simp only [sameI, decide_eq_false_iff_not]
            intro h
            subst h
            exact hxy rfl
          have hneH := Lib.hid hne
          clear hne hxy
          go_wp2
          go_quiet (fail)
          go_wp2
          go_ret
          exact ⟨by rw [hneH.out]; rfl, below_drewN hB _⟩
      · go_wp2
        go_ret
        have hk' : k = xs.length := by omega
        subst hk'
        have : sameI xs ys = true := by simp only [sameI, decide_eq_true_eq]; exact take_full hsm.out hl1.out
        exact ⟨by rw [this]; rfl, hB⟩
  · have he : ((xs.length : Int) != ys.length) = true := ne_t (by omega)
    have hne : sameI xs ys = false := by
      simp only [sameI, decide_eq_false_iff_not]
      intro h
      exact hle (by rw [h])
    have hneH := Lib.hid hne
    clear hne
    go_enter Try.func19, Try.ntmps19
    go_wp2
    go_ret
    exact ⟨by rw [hneH.out]; rfl, Below.refl _ _⟩

set_option maxHeartbeats 4000000 in
set_option maxRecDepth 100000 in
theorem flowDistances_walk (w : World) (n : Int) (v1 : Value) (fr : Int) (E0 : List (Int × Int)) (h1 : Rd w v1 E0.length (pairs E0)) :
    Calls Try.prog 6 #[I n, v1, I fr] w fun e w' => e = .returned (.bool true) ∧ Below w.heap.size w w' := by
  have HE0 := Lib.hid h1
  clear h1
  go_enter Try.func6, Try.ntmps6
  go_wp2_with fail
  refine (few_any _ _ E0 HE0.out).mono ?_
  rintro e w' ⟨ve, rfl, rfl, hE⟩
  have hl := fewE_length E0
  generalize fewE E0 = E at hE hl
  have HE := Lib.hid hE
  clear hE
  go_wp2_with fail
  refine (own_any _ _ E HE.out (by omega)).mono ?_
  rintro e w1 ⟨r1, rfl, hr1, B1⟩
  have HR1 := Lib.hid (Rd.of_own hr1)
  clear hr1
  go_wp2_with fail
  refine (distances_any _ n _ E fr HR1.out (by omega)).mono ?_
  rintro e w2 ⟨ra, da, rfl, ha, B2, ha0, ha1⟩
  have D2 : Below w.heap.size w w2 := below_step B1 B2 B1.size
  have HA := Lib.hid (ha.alloc (.cells #[I fr] 3))
  have HF : Hid (Rd (w2.alloc (.cells #[I fr] 3)) (.slice (some ⟨w2.heap.size, 0, none⟩) 1 1) [fr].length (ints [fr])) := Lib.hid (by simpa [ints] using Rd.fresh w2 #[I fr] 3 1 1 (by omega) (by omega))
  have D3 : Below w.heap.size w (w2.alloc (.cells #[I fr] 3)) := D2.alloc D2.size _
  have HE3 := Lib.hid (HE.out.below D3)
  have HA0 := Lib.hid ha0
  have HA1 := Lib.hid ha1
  clear ha ha0 ha1 B1 B2 D2
  go_wp2_with fail
  refine (dist_any _ n _ _ E [fr] HE3.out HF.out).mono ?_
  rintro e w4 ⟨rb, db, rfl, hb, B4, hdl, hb0, hb1⟩
  have D4 : Below w.heap.size w w4 := below_step D3 B4 D3.size
  have HB := Lib.hid hb
  have HA4 := Lib.hid (HA.out.below B4)
  have hab : sameI da db = true := by
    simp only [sameI, decide_eq_true_eq]
    by_cases h : fitF n E [fr] = 0
    · obtain ⟨m, rfl, _, _⟩ := fits_of h
      exact isDist_unique (HA1.out m rfl h) (hb1 m rfl h)
    · rw [HA0.out h, hb0 h]
  clear hb hb0 hb1 HA0 HA1 D3 B4
  go_wp2_with fail
  refine (ints_any _ _ _ da db HA4.out HB.out).mono ?_
  rintro e w5 ⟨rfl, B5⟩
  have D5 : Below w.heap.size w w5 := below_step D4 B5 D4.size
  go_wp2_with fail
  refine (lives_any _).mono ?_
  rintro e w6 ⟨rfl, B6⟩
  go_wp2
  go_ret
  exact ⟨rfl, below_step D5 B6 D5.size⟩
end Go.Proofs.Ytcghkemfepnihaa
