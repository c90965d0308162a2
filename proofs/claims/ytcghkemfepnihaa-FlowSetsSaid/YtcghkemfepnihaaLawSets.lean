import Derived.Test.YtcghkemfepnihaaSets
import Derived.Test.YtcghkemfepnihaaLawDist
namespace Go.Proofs.Ytcghkemfepnihaa
open Go.RowKit

theorem rd_form_len {w : World} {v : Value} {n : Nat} {cs : List Value} (h : Rd w v n cs) : ∃ (A : Option Addr) (cap : Nat), v = .slice A n cap := by
  obtain ⟨A, cap, e, _⟩ := h.form
  exact ⟨A, cap, e⟩
set_option maxHeartbeats 8000000 in
set_option maxRecDepth 100000 in
theorem flowSets_walk (w : World) (n : Int) (v1 v2 : Value) (E0 D0 : List (Int × Int)) (h1 : Rd w v1 E0.length (pairs E0)) (h2 : Rd w v2 D0.length (pairs D0)) :
    Calls Try.prog 7 #[I n, v1, v2] w fun e w' => e = .returned (.bool true) ∧ Below w.heap.size w w' := by
  have HE0 := Lib.hid h1
  obtain ⟨A2, c2, rfl, hm2⟩ := h2.form
  have HD0 := Lib.hid h2
  clear h1 h2
  go_enter Try.func7, Try.ntmps7
  go_wp2_with fail
  refine (few_any _ _ E0 HE0.out).mono ?_
  rintro e w' ⟨ve, rfl, rfl, hE⟩
  have hl := fewE_length E0
  generalize fewE E0 = E at hE hl
  have HE := Lib.hid hE
  clear hE HE0
  -- the seeds are cut
  go_upto_if 16 with fail
  go_cut [2] (fun s2 wx => ∃ D : List (Int × Int), D.length ≤ 20 ∧ wx = w ∧ Rd w s2 D.length (pairs D))
  case first =>
    by_cases hl : 20 < D0.length
    · have hl' : (20 : Int) < D0.length := by omega
      have hc : (20 : Int) ≤ c2 := by omega
      have hr : Rd w (.slice A2 20 c2) (D0.take 20).length (pairs (D0.take 20)) := by
        have h20 : (D0.take 20).length = 20 := by simp; omega
        rw [h20]
        exact HD0.out.first 20 (by omega) _ (fun j u hu => by
          rw [pairs_take, List.getElem?_take] at hu
          split at hu
          · exact hu
          · cases hu)
      have HR := Lib.hid hr
      clear hr
      go_wp2_with fail
      go_meet
      case rel => exact ⟨D0.take 20, by simp; omega, rfl, by simpa [Addr.add] using HR.out⟩
    · have hl' : ¬ (20 : Int) < D0.length := by omega
      go_wp2_with fail
      go_meet
      case rel => exact ⟨D0, by omega, rfl, HD0.out⟩
  case rest =>
    obtain ⟨D, hD, rfl, hrd⟩ := hcut
    have HD := Lib.hid hrd
    clear hrd HD0
    go_wp2_with fail
    refine (own_any _ _ E HE.out (by omega)).mono ?_
    rintro e w1 ⟨r1, rfl, hr1, B1⟩
    have HR1 := Lib.hid (Rd.of_own hr1)
    have HD1 := Lib.hid (HD.out.below B1)
    clear hr1
    go_wp2_with fail
    refine (own_any _ _ D HD1.out (by omega)).mono ?_
    rintro e w2 ⟨r2, rfl, hr2, B2⟩
    have HR2 := Lib.hid (Rd.of_own hr2)
    have HR1' := Lib.hid (HR1.out.below B2)
    have D2 : Below wc.heap.size wc w2 := below_step B1 B2 B1.size
    clear hr2 HR1 HD1 B1 B2
    go_wp2_with fail
    refine (sets_any _ n _ _ E D HR1'.out HR2.out (by omega) (by omega)).mono ?_
    rintro e w3 ⟨ra, oa, rfl, ha, B3, ha0, ha1⟩
    have D3 : Below wc.heap.size wc w3 := below_step D2 B3 D2.size
    have HE3 := Lib.hid (HE.out.below D3)
    have HD3 := Lib.hid (HD.out.below D3)
    have HA0 := Lib.hid ha0
    have HA1 := Lib.hid ha1
    have HA := Lib.hid ha
    clear ha ha0 ha1 D2 B3 HR1' HR2
    go_wp2_with fail
    refine (refsets_any _ n _ _ E D HE3.out HD3.out (by omega)).mono ?_
    rintro e w4 ⟨rb, ob, rfl, hb, B4, hb0, hb1⟩
    have D4 : Below wc.heap.size wc w4 := below_step D3 B4 D3.size
    have hab : oa = ob := by
      by_cases h : fitF n E (firsts D) = 0
      · obtain ⟨m, rfl, _, _⟩ := fits_of h
        exact setsOut_unique (HA1.out m rfl h) (hb1 m rfl h)
      · rw [HA0.out h, hb0 h]
    subst hab
    obtain ⟨vsA, a1, a2, a3⟩ := (HA.out.below B4).out
    obtain ⟨vsB, b1, b2, b3⟩ := hb.out
    obtain ⟨Aa, ca, rfl, hma⟩ := a1.form
    obtain ⟨Ab, cb, rfl, hmb⟩ := b1.form
    have HA1 := Lib.hid a1
    have HA2 := Lib.hid a2
    have HA3 := Lib.hid a3
    have HB1 := Lib.hid b1
    have HB2 := Lib.hid b2
    have HB3 := Lib.hid b3
    clear hb hb0 hb1 HA0 HA a1 a2 a3 b1 b2 b3 D3 B4 HE3 HD3
    have he : (fitF n E (firsts D) != fitF n E (firsts D)) = false := by simp
    have he2 : ((oa.length : Int) != oa.length) = false := by simp
    go_wp2_with fail
    go_loopw [11] (fun i wr => ∃ k : Nat, k ≤ oa.length ∧ i = .int .i64 k ∧ Below w4.heap.size w4 wr) (fun i _ => oa.length - (intOf i).toNat)
    case atStart => exact ⟨0, Nat.zero_le _, rfl, Below.refl _ _⟩
    case round =>
      obtain ⟨k, hk, rfl, hB⟩ := hrel
      by_cases hlt : k < oa.length
      · obtain ⟨ba, fa, _, ea, _, hba, ga⟩ := HA1.out.elem (by rw [HA2.out]; omega)
        obtain ⟨bb, fb, _, eb, _, hbb, gb⟩ := HB1.out.elem (by rw [HB2.out]; omega)
        cases ea
        cases eb
        have hkz : (k : Int) < oa.length := by omega
        have da : wr.cell? ⟨ba, fa + k, none⟩ = some (vsA.getD k nilS) := (hB.cell (p := ⟨ba, fa + k, none⟩) hba).trans (ga k _ (by rw [List.getD_eq_getElem?_getD, List.getElem?_eq_getElem (by rw [HA2.out]; exact hlt)]; rfl))
        have db : wr.cell? ⟨bb, fb + k, none⟩ = some (vsB.getD k nilS) := (hB.cell (p := ⟨bb, fb + k, none⟩) hbb).trans (gb k _ (by rw [List.getD_eq_getElem?_getD, List.getElem?_eq_getElem (by rw [HB2.out]; exact hlt)]; rfl))
        have ra := (HA3.out k hlt).below hB
        have rb := (HB3.out k hlt).below hB
        generalize oa.getD k [] = row at ra rb
        generalize vsA.getD k nilS = va at da ra
        generalize vsB.getD k nilS = vb at db rb
        obtain ⟨A5, c5, rfl, hm5⟩ := ra.form
        obtain ⟨A6, c6, rfl, hm6⟩ := rb.form
        have HRA := Lib.hid ra
        have HRB := Lib.hid rb
        have hsm : sameI row row = true := by simp [sameI]
        clear ga gb ra rb
        go_upto_region 11 with fail
        have hba2 : ba < wr.heap.size := Nat.lt_of_lt_of_le hba hB.size
        have hbb2 : bb < wr.heap.size := Nat.lt_of_lt_of_le hbb hB.size
        go_region_held3 (fun w' => w'.cell? ⟨ba, fa + k, none⟩ = some (.slice A5 row.length c5) ∧ w'.cell? ⟨bb, fb + k, none⟩ = some (.slice A6 row.length c6))
          (first | (exact ⟨(B5.cell (p := ⟨ba, fa + k, none⟩) hba2).trans da, (B5.cell (p := ⟨bb, fb + k, none⟩) hbb2).trans db⟩) | go_keep)
          ((go_at_call 19; refine (ints_any _ _ _ _ _ HRA.out.drew HRB.out.drew).mono ?_; rintro e w5 ⟨rfl, B5⟩))
        go_wp2
        go_roundw
        case rel => exact ⟨k + 1, by omega, by go_num, below_step hB ((Below.refl _ wr).drew.trans B5) hB.size⟩
        case measure => simp [intOf]; omega
      · go_wp2_with fail
        refine (lives_any _).mono ?_
        rintro e w6 ⟨rfl, B6⟩
        go_wp2
        go_ret
        exact ⟨rfl, below_step (below_step D4 hB D4.size) B6 (by have := D4.size; have := hB.size; omega)⟩
end Go.Proofs.Ytcghkemfepnihaa
