import Derived.Test.YtakpikoffbgjfaaHQ
namespace Go.Proofs.Ytakpikoffbgjfaa
open Go.RowKit Go.Maps

theorem fM_calm {k : Nat} (hk : k ≤ 1000) : Calm { fM k 0 0 with last := (fM k 0 0).last + 1, frames := (fM k 0 0).frames ++ [(fM k 0 0).last + 1] } := by
  refine ⟨⟨by simp [fM], by simp [fM], by simp [fM]⟩, by simp, ?_, ?_, by simp [fM], by simp [fM]⟩
  · have := fM_flen k 0 0
    simp only [List.length_append, this, List.length_singleton]; omega
  · have := fM_tlen k 0 0
    simp only [this]; omega
set_option maxHeartbeats 8000000 in
set_option maxRecDepth 100000 in
theorem heapFrames_walk (w : World) (deep up : Int) (again : Bool) (hd : 0 ≤ deep ∧ deep ≤ 255) (hu : 0 ≤ up ∧ up ≤ 255) :
    Calls Try.prog 3 #[.int .u8 deep, .int .u8 up, .bool again] w fun e w' => e = .returned (.bool true) ∧ Below w.heap.size w w' := by
  obtain ⟨hd0, hd1⟩ := hd
  obtain ⟨hu0, hu1⟩ := hu
  go_enter Try.func3, Try.ntmps3
  go_wp2_with fail
  refine (new_any w 0).mono ?_
  rintro e w1 ⟨p, F1, tv1, fv1, rfl, m1, b1, n1⟩
  rw [fM_start] at m1
  have hs1 := b1.size
  have HB1 := Lib.hid b1
  have HS1 : Hid (Side w (w1.alloc (.cells #[] 3)) p (fM 0 0 0) (.slice (some ⟨w1.heap.size, 0, none⟩) 0 0) (up1 0)) := by
    have hA := (Arr.new w1 3 #[]).own (sz := 1) w.heap.size 0 hs1 rfl (Nat.zero_le _)
    refine Lib.hid ⟨⟨F1, tv1, fv1, [], m1.below (below_alloc _ _), n1, fun b hb hF => ?_⟩, hA, b1.alloc hs1 _⟩
    cases hb
    have := m1.lt w1.heap.size hF
    omega
  clear m1 b1 n1
  go_upto_region 6 with fail
  obtain ⟨n, hn⟩ : ∃ n : Nat, 1 + deep % 20 = n := ⟨(1 + deep % 20).toNat, by omega⟩
  rw [hn]
  have hn1 : 1 ≤ n := by omega
  have hn20 : n ≤ 20 := by omega
  clear hn hd0 hd1
  go_wp2_with fail
  go_loopw [9, 10] (fun l i wr => ∃ k : Nat, k ≤ n ∧ i = .int .i64 k ∧ Side w wr p (fM k 0 0) l (up1 k)) (fun _ i _ => n - (intOf i).toNat)
  case atStart => exact ⟨0, Nat.zero_le _, rfl, HS1.out⟩
  case round =>
    obtain ⟨k, hk, rfl, hS⟩ := hrel
    by_cases hlt : k < n
    · have hlt' : (k : Int) < n := by omega
      obtain ⟨⟨F, tv, fv, qs, hm, hnw, ha⟩, hl, hb⟩ := hS
      have HM := Lib.hid hm
      have HNW := Lib.hid hnw
      have HA := Lib.hid ha
      have HL := Lib.hid hl
      have HB := Lib.hid hb
      have HLT := Lib.hid hlt
      clear hm hnw ha hl hb hlt
      go_wp2_with fail
      refine (enter_any wr F p (fM k 0 0) tv fv qs HM.out (by intro e; have := fM_flen k 0 0; rw [e] at this; simp at this) (by simp [fM]; omega) (by simp [fM]; omega) (by rw [fM_flen]; omega)).mono ?_
      rintro e w2 ⟨F2, fv2, rfl, ho⟩
      obtain ⟨⟨F2, tv2, fv2, qs2, hm2, hn2, ha2⟩, hl2, hb2⟩ := Side.step HL.out HB.out HNW.out HA.out ho.mem ho.chg ho.new
      have HM2 := Lib.hid hm2
      have HN2 := Lib.hid hn2
      have HA2 := Lib.hid ha2
      have HL2 := Lib.hid hl2
      have HB2 := Lib.hid hb2
      clear hm2 hn2 ha2 hl2 hb2 ho HM HNW HA HL HB
      go_wp2_with fail
      refine (slice_any w2 F2 p _ tv2 fv2 qs2 1 true HM2.out (fM_calm (by omega))).mono ?_
      rw [fM_made]
      rintro e w3 ⟨F3, tv3, qs3, rfl, hm3, hc3, hn3⟩
      have hS3 := Side.step HL2.out HB2.out HN2.out HA2.out hm3 hc3 hn3
      have hlen := up1_len k
      have hl3 := hS3.own
      rw [hlen] at hl3
      have HS3 := Lib.hid hS3
      have HL3 := Lib.hid hl3
      have hs3 : w.heap.size ≤ w3.heap.size := hS3.below.size
      clear HM2 HN2 HA2 HL2 HB2 hm3 hc3 hn3 hS3 hl3 hlen
      go_wp2_with (at_builtin; refine wpl_append1 rfl _ _ _ rfl E24 rfl (HL3.out.alloc _) (u := .slice (some ⟨w3.heap.size, 0, none⟩) 1 1) (m := 1) (news := [I ((k : Int) + 1)]) rfl (Rd.fresh w3 #[I ((k : Int) + 1)] 3 1 1 (by omega) (by omega)) rfl (by simp [Value.oneCell']) (by omega) (by omega) (by simp only [maxLen]; omega) (by simp; omega) ?_; intro g' cap' w4 hap)
      go_roundw
      case rel => exact ⟨k + 1, by have := HLT.out; omega, by go_num, by rw [up1_succ]; exact HS3.out.put (by rw [up1_len]) hap⟩
      case measure => have := HLT.out; simp [intOf]; omega
    · obtain rfl : k = n := by omega
      have HS := Lib.hid hS
      clear hS hlt hk HS1
      go_upto_region 15 with fail
      obtain ⟨m, hm⟩ : ∃ m : Nat, up % ((k : Int) + 1) = m := ⟨(up % ((k : Int) + 1)).toNat, by have := Int.emod_nonneg up (show (k : Int) + 1 ≠ 0 by omega); omega⟩
      have hmk : m ≤ k := by
        have := Int.emod_lt_of_pos up (show (0 : Int) < (k : Int) + 1 by omega)
        omega
      rw [hm]
      clear hm
      go_wp2_with fail
      go_loopw [14] (fun i wr => ∃ j : Nat, j ≤ m ∧ i = .int .i64 j ∧ Side w wr p (fM k j 0) u9 (up1 k)) (fun i _ => m - (intOf i).toNat)
      case atStart => exact ⟨0, Nat.zero_le _, rfl, HS.out⟩
      case round =>
        obtain ⟨j, hj, rfl, hS⟩ := hrel
        by_cases hlt : j < m
        · have hlt' : (j : Int) < m := by omega
          obtain ⟨⟨F, tv, fv, qs, hm, hnw, ha⟩, hl, hb⟩ := hS
          have HM := Lib.hid hm
          have HNW := Lib.hid hnw
          have HA := Lib.hid ha
          have HL := Lib.hid hl
          have HB := Lib.hid hb
          have HLT := Lib.hid hlt
          clear hm hnw ha hl hb hlt HS
          go_wp2_with fail
          refine (leave_any _ F p (fM k j 0) tv fv qs HM.out (by rw [fM_flen]; omega)).mono ?_
          rintro e w2 ⟨fv2, rfl, ho⟩
          have hfl := fM_flen k j 0
          have h2 : 2 ≤ (fM k j 0).frames.length := by rw [hfl]; have := HLT.out; omega
          rw [if_pos h2, fM_left (by have := HLT.out; omega)] at ho
          rw [de_t h2]
          have HS2 := Lib.hid (Side.step HL.out HB.out HNW.out HA.out ho.mem ho.chg ho.new)
          clear ho hfl h2 HM HNW HA HL HB
          go_wp2_with fail
          go_roundw
          case rel => exact ⟨j + 1, by have := HLT.out; omega, by go_num, HS2.out⟩
          case measure => have := HLT.out; simp [intOf]; omega
        · obtain rfl : j = m := by omega
          have HS2 := Lib.hid hS
          clear hS hlt hj HS
          go_upto_if 58 with fail
          go_cut [59] (fun s59 wx => ∃ i : Nat, i ≤ k ∧ Side w wx p (fM k j i) u9 (up1 k))
          case first =>
            cases again with
            | false =>
              go_wp2_with fail
              go_meet
              case rel => exact ⟨0, Nat.zero_le _, HS2.out⟩
            | true =>
              go_wp2_with fail
              go_loopw [15] (fun i wr => ∃ a : Nat, a ≤ j ∧ i = .int .i64 a ∧ Side w wr p (fM k j a) u9 (up1 k)) (fun i _ => j - (intOf i).toNat)
              case atStart => exact ⟨0, Nat.zero_le _, rfl, HS2.out⟩
              case round =>
                obtain ⟨a, ha, rfl, hS⟩ := hrel
                by_cases hlt : a < j
                · have hlt' : (a : Int) < j := by omega
                  obtain ⟨⟨F, tv, fv, qs, hm, hnw, ha⟩, hl, hb⟩ := hS
                  have HM := Lib.hid hm
                  have HNW := Lib.hid hnw
                  have HA := Lib.hid ha
                  have HL := Lib.hid hl
                  have HB := Lib.hid hb
                  have HLT := Lib.hid hlt
                  clear hm hnw ha hl hb hlt HS2
                  go_wp2_with fail
                  refine (enter_any _ F p (fM k j a) tv fv qs HM.out (by intro e; have := fM_flen k j a; rw [e] at this; simp at this; omega) (by simp [fM]; omega) (by simp [fM]; omega) (by rw [fM_flen]; omega)).mono ?_
                  rintro e w2 ⟨F2, fv2, rfl, ho⟩
                  rw [fM_again] at ho
                  have HS3 := Lib.hid (Side.step HL.out HB.out HNW.out HA.out ho.mem ho.chg ho.new)
                  clear ho HM HNW HA HL HB
                  go_wp2_with fail
                  go_roundw
                  case rel => exact ⟨a + 1, by have := HLT.out; omega, by go_num, HS3.out⟩
                  case measure => have := HLT.out; simp [intOf]; omega
                · obtain rfl : a = j := by omega
                  have HS3 := Lib.hid hS
                  clear hS hlt
                  go_wp2_with fail
                  go_meet
                  case rel => exact ⟨a, hmk, HS3.out⟩
          case rest =>
            obtain ⟨i0, hi0, hS⟩ := hcut
            have hl0 := hS.own
            have hlen := up1_len k
            rw [hlen] at hl0
            obtain ⟨gl, cl, rfl, hgl1, hgl2⟩ := hl0.form (by omega)
            obtain ⟨Al, cl2, el, hcl1, hcl2⟩ := (Rd.of_own hl0).form
            cases el
            have HS3 := Lib.hid hS
            clear hS hl0 hlen HS2
            go_wp2_with fail
            go_loopw [16] (fun i wr => ∃ a : Nat, a ≤ k ∧ i = .int .i64 a ∧ Side w wr p (fM k j i0) (.slice (some ⟨gl, 0, none⟩) k cl) (up1 k)) (fun i _ => k - (intOf i).toNat)
            case atStart => exact ⟨0, Nat.zero_le _, rfl, HS3.out⟩
            case round =>
              obtain ⟨a, ha, rfl, hS⟩ := hrel
              by_cases hlt : a < k
              · have hlt' : (a : Int) < k := by omega
                obtain ⟨⟨F, tv, fv, qs, hm, hnw, hap⟩, hl, hb⟩ := hS
                have c0 := hl.cells (g := gl) rfl a (I ((a : Int) + 1)) (by simp [ints, up1_get hlt])
                rw [add_plain', Nat.zero_add] at c0
                have HM := Lib.hid hm
                have HNW := Lib.hid hnw
                have HA := Lib.hid hap
                have HL := Lib.hid hl
                have HB := Lib.hid hb
                have HLT := Lib.hid hlt
                clear hm hnw hap hl hb hlt HS3
                go_wp2_with fail
                refine (get_any _ F p (fM k j i0) tv fv qs ((a : Int) + 1) 0 HM.out (fM_sorted _ _ _) (by rw [fM_flen]; omega) (by rw [fM_tlen]; omega)).mono ?_
                rintro e w2 ⟨v, rfl, hb2, _⟩
                rw [fM_val HLT.out hmk]
                have HS4 : Hid (Side w (w2.alloc (.cells #[I v.n, .string v.s, I v.r] 30)) p (fM k j i0) (.slice (some ⟨gl, 0, none⟩) k cl) (up1 k)) := by
                  have hb3 := hb2.alloc hb2.size (.cells #[I v.n, .string v.s, I v.r] 30)
                  refine Lib.hid ⟨⟨F, tv, fv, qs, HM.out.below hb3, HNW.out, HA.out⟩, own_kept HL.out (fun b hb => hb3.block b (HL.out.lt b hb).2), below_step HB.out hb3 HB.out.size⟩
                clear c0 HM HNW HA HL HB hb2
                by_cases hc : k - j ≤ a
                · rw [if_pos hc]
                  have hc' : (k : Int) - j ≤ a := by omega
                  have HC := Lib.hid hc
                  clear hc
                  go_wp2_with fail
                  go_roundw
                  case rel => exact ⟨a + 1, by have := HLT.out; omega, by go_num, HS4.out⟩
                  case measure => have := HLT.out; simp [intOf]; omega
                · rw [if_neg hc]
                  have hc' : ¬ (k : Int) - j ≤ a := by omega
                  have HC := Lib.hid hc
                  clear hc
                  go_wp2_with fail
                  go_roundw
                  case rel => exact ⟨a + 1, by have := HLT.out; omega, by go_num, HS4.out⟩
                  case measure => have := HLT.out; simp [intOf]; omega
              · have hlt' : ¬ (a : Int) < k := by omega
                have HB := Lib.hid hS.below
                clear hS hlt HS3
                go_wp2_with fail
                refine (lives_any _).mono ?_
                rintro e w5 ⟨rfl, hb5⟩
                go_wp2
                go_ret
                exact ⟨rfl, below_step HB.out hb5 HB.out.size⟩
end Go.Proofs.Ytakpikoffbgjfaa
