/- A program's text by package show: the walk (printed by wip/mk_tx.py). -/
import Derived.Test.YtacopdbldfgknaaDoorTK
namespace Go.Proofs.YtacopdbldfgknaaDoor
open Go Go.RowKit PShellTexts YtacopdbldfgknaaDoorW.PrintWords YtacopdbldfgknaaDoorW.PrintMore YtacopdbldfgknaaDoorW.PrintLast

theorem prog_nil (w : World) : Calls Tryd.prog 15 #[.pointer none] w (TX w [] 0) := by
  go_enter Tryd.func15, Tryd.ntmps15
  go_wp2_with fail
  go_ret
  exact TX.mk rfl (by simp) (Below.refl _ _)
set_option maxHeartbeats 8000000 in
set_option maxRecDepth 100000 in
theorem prog_any (w : World) (bp : Nat) (p : S26) (hp : PM w bp p) (ho : okP p) (hv : Vars w) :
    Calls Tryd.prog 15 #[.pointer (some ⟨bp, 0, none⟩)] w (TX w (progTx p) 80200100000000) := by
  obtain ⟨A0, c0, A1, c1, A2, c2, ⟨hc0, hc1, hc2⟩, ⟨hl0, hg0⟩, ⟨hl1, hg1⟩, ⟨hl2, hg2⟩⟩ := hp.out
  have HL := Lib.hid (progTx_le ho)
  have HO := Lib.hid ho
  have HV := Lib.hid hv
  have HG0 := Lib.hid hg0
  have HG1 := Lib.hid hg1
  have HG2 := Lib.hid hg2
  have HC1 := Lib.hid hc1
  have HC2 := Lib.hid hc2
  have hS := ho.ls
  have hC := ho.lc
  have hFn := ho.lf
  have HBF : Hid (FW 56 w w.heap.size [] (w.alloc (.cells #[.pointer none, .slice none 0 0] 56))) := Lib.hid ⟨BF.fresh 56 w, below_alloc _ _⟩
  have hca := cell_b hc0 (below_alloc w (.cells #[.pointer none, .slice none 0 0] 56))
  have hne0 : Hid (bp ≠ w.heap.size) := Lib.hid (by have := World.block_lt_of_cell? w _ hc0; simp at this; omega)
  clear hp ho hv hg0 hg1 hg2 hc0 hc1 hc2
  go_enter Tryd.func15, Tryd.ntmps15
  go_upto_region 4 with fail
  obtain ⟨W, hW⟩ : ∃ W, w.alloc (.cells #[.pointer none, .slice none 0 0] 56) = W := ⟨_, rfl⟩
  obtain ⟨b, hb⟩ : ∃ b, w.heap.size = b := ⟨_, rfl⟩
  rw [hW, hb] at HBF
  rw [hW] at hca
  rw [hW, hb]
  clear hW hb hne0
  go_upto_block 1 with fail
  clear hca
  go_loopw [17] (fun v17 wr => ∃ k : Nat, k ≤ p.f0.length ∧ v17 = I k ∧ Hid (FW 56 w b (upto (sigAt p.f0) k) wr)) (fun v17 _ => p.f0.length - (intOf v17).toNat)
  case atStart => exact ⟨0, Nat.zero_le _, rfl, HBF⟩
  case round =>
    obtain ⟨k, hk, rfl, HFK⟩ := hrel
    clear HBF
    by_cases hlt : k < p.f0.length
    · obtain ⟨ad, A8, c8, e, hx0, hx1, hl8, hi8⟩ := at_T36 HG0.out (k : Int) (by omega) (by omega)
      subst e
      replace hx0 := (HFK.out.below.cell (World.block_lt_of_cell? _ _ hx0)).trans hx0
      replace hx1 := (HFK.out.below.cell (World.block_lt_of_cell? _ _ hx1)).trans hx1
      have HOK := Lib.hid (getD_ok HO.out.s (d := z36) hlt)
      have HSL := Lib.hid (sigs_le HO.out k (by omega))
      have HSK : Hid (upto (sigAt p.f0) (k + 1) = upto (sigAt p.f0) k ++ sigTx (p.f0.getD k z36)) := Lib.hid (upto_succ _ k)
      rw [Int.toNat_natCast] at hx0 hx1 hl8 hi8
      obtain ⟨o, ho⟩ : ∃ o, p.f0.getD k z36 = o := ⟨_, rfl⟩
      rw [ho] at hx0 hx1 hl8 hi8 HOK HSK
      clear ho
      have HI8 := Lib.hid hi8
      clear hi8
      go_upto_region 7 with fail
      have HC8 := Lib.hid hl8
      clear hx0 hx1
      have HF1 := Lib.hid (HFK.out.alloc (.cells #[.slice A8 o.f0.length c8, I o.f1] 36))
      have HAK1 := Lib.hid (Arr.new wr 36 #[.slice A8 o.f0.length c8, I o.f1])
      have HNK : Hid (wr.heap.size ≠ b) := Lib.hid (by have := HFK.out.lt; omega)
      obtain ⟨x2, hx2⟩ : ∃ x2, upto (sigAt p.f0) k = x2 := ⟨_, rfl⟩
      have hx2l : x2.length ≤ 23100000 := by rw [← hx2]; exact HSL.out
      rw [hx2] at HF1 HSK
      obtain ⟨WK, hWK⟩ : ∃ WK, wr.alloc (.cells #[.slice A8 o.f0.length c8, I o.f1] 36) = WK := ⟨_, rfl⟩
      obtain ⟨bo, hbo⟩ : ∃ bo, wr.heap.size = bo := ⟨_, rfl⟩
      rw [hWK] at HF1 HAK1
      rw [hbo] at HAK1 HNK
      rw [hWK, hbo]
      clear hx2 HFK hWK hbo HSL
      refine wp_region_y (fun w' => w'.cell? ⟨bo, 0, none⟩ = some (.slice A8 o.f0.length c8) ∧ w'.cell? ⟨bo, 1, none⟩ = some (I o.f1)) [] (by kernel_rfl) ?_
      have hS0 : WK.drew.cell? ⟨bo, 0, none⟩ = some (.slice A8 o.f0.length c8) ∧ WK.drew.cell? ⟨bo, 1, none⟩ = some (I o.f1) := ⟨HAK1.out.cell 0, HAK1.out.cell 1⟩
      refine wpY_pure (i := 0) (v := ?_) rfl (by kernel_rfl) (fun _ _ _ h => h) (Or.inl ⟨rfl, ?_⟩) (fun _ => hS0) ?_
      rotate_left
      · intro W _
        go_simp
        try (with_reducible rfl)
      refine wpY_take (i := 1) (v := ?_) rfl (by kernel_rfl) (fun _ _ _ h => h) (Or.inl ⟨rfl, ?_⟩) hS0 ?_
      rotate_left
      · rintro W ⟨s0, s1⟩
        go_simp
        try (with_reducible rfl)
      refine wpY_pure (i := 5) (v := ?_) rfl (by kernel_rfl) (fun _ _ _ h => h) (Or.inl ⟨rfl, ?_⟩) (fun _ => hS0) ?_
      rotate_left
      · intro W _
        go_simp
        try (with_reducible rfl)
      refine wpY_take (i := 6) (v := ?_) rfl (by kernel_rfl) (fun _ _ _ h => h) (Or.inl ⟨rfl, ?_⟩) hS0 ?_
      rotate_left
      · rintro W ⟨s0, s1⟩
        go_simp
        try (with_reducible rfl)
      refine wpY_one (i := 2) rfl (by kernel_rfl) (fun K hK => ?_)
      go_simp
      refine (brackets_any _ 26 (.inr (.inl rfl)) tyTx tells_type tyTx_le A8 c8 o.f0 (Kd.C_below HI8.out HF1.out.drew.below) HC8.out HOK.out.1 (HF1.out.drew.vars HV.out)).mono ?_
      rintro e w7 ⟨t7, rfl, ht7, hl7, hb7⟩
      have HF7 := Lib.hid (HF1.out.drew.next hb7.out)
      have HAK7 := Lib.hid (HAK1.out.drew.below hb7.out)
      have hS1 : w7.cell? ⟨bo, 0, none⟩ = some (.slice A8 o.f0.length c8) ∧ w7.cell? ⟨bo, 1, none⟩ = some (I o.f1) := ⟨HAK7.out.cell 0, HAK7.out.cell 1⟩
      go_wp2_with fail
      refine hK _ _ (fun _ => hS1) ?_
      clear hK K
      have hn1 : (9223372036854775807 < 4 + t7.length) = False := eq_false (by omega)
      have hn2 : (9223372036854775807 < 4 + t7.length + 1) = False := eq_false (by omega)
      refine wpY_pure (i := 3) (v := ?_) rfl (by kernel_rfl) (fun _ _ _ h => h) (Or.inl ⟨rfl, ?_⟩) (fun _ => hS1) ?_
      rotate_left
      · intro W _
        go_simp
        try (with_reducible rfl)
      refine wpY_pure (i := 4) (v := ?_) rfl (by kernel_rfl) (fun _ _ _ h => h) (Or.inl ⟨rfl, ?_⟩) (fun _ => hS1) ?_
      rotate_left
      · intro W _
        go_simp
        try (with_reducible rfl)
      refine wpY_one (i := 7) rfl (by kernel_rfl) (fun K hK => ?_)
      go_simp
      refine (typed_any _ o.f1 HOK.out.2 (HF7.out.vars HV.out)).mono ?_
      rintro e w8 ⟨t8, rfl, ht8, hl8b, hb8⟩
      have HF8 := Lib.hid (HF7.out.next hb8.out)
      have HAK8 := Lib.hid (HAK7.out.below hb8.out)
      have hS2 : w8.cell? ⟨bo, 0, none⟩ = some (.slice A8 o.f0.length c8) ∧ w8.cell? ⟨bo, 1, none⟩ = some (I o.f1) := ⟨HAK8.out.cell 0, HAK8.out.cell 1⟩
      go_wp2_with fail
      refine hK _ _ (fun _ => hS2) ?_
      clear hK K
      have hn3 : (9223372036854775807 < 4 + t7.length + 1 + t8.length) = False := eq_false (by omega)
      have hn4 : (9223372036854775807 < 4 + t7.length + 1 + t8.length + 1) = False := eq_false (by omega)
      refine wpY_pure (i := 8) (v := ?_) rfl (by kernel_rfl) (fun _ _ _ h => h) (Or.inl ⟨rfl, ?_⟩) (fun _ => hS2) ?_
      rotate_left
      · intro W _
        go_simp
        try (with_reducible rfl)
      refine wpY_pure (i := 9) (v := ?_) rfl (by kernel_rfl) (fun _ _ _ h => h) (Or.inl ⟨rfl, ?_⟩) (fun _ => hS2) ?_
      rotate_left
      · intro W _
        go_simp
        try (with_reducible rfl)
      refine wpY_one (i := 10) rfl (by kernel_rfl) (fun K hK => ?_)
      go_simp
      refine (write56 w w8 b x2 ([115, 105, 103, 32] ++ t7 ++ [32] ++ t8 ++ [10]) _ (by (apply ByteArray.ext; simp [ByteArray.data_append])) HF8.out (by simp only [List.length_append, List.length_cons, List.length_nil]; omega)).mono ?_
      rintro e w9 ⟨n9, rfl, HF9, HW9⟩
      have HAK9 := Lib.hid (HAK8.out.wr HW9.out HNK.out (by decide))
      have hS3 : w9.cell? ⟨bo, 0, none⟩ = some (.slice A8 o.f0.length c8) ∧ w9.cell? ⟨bo, 1, none⟩ = some (I o.f1) := ⟨HAK9.out.cell 0, HAK9.out.cell 1⟩
      go_wp2_with fail
      refine hK _ _ (fun _ => hS3) ?_
      clear hK K
      refine wpY_done (by kernel_rfl) ?_ _
      clear hS0 hS1 hS2 hS3
      clear hn1 hn2 hn3 hn4
      have HET : Hid ([115, 105, 103, 32] ++ t7 ++ [32] ++ t8 ++ [10] = sigTx o) := Lib.hid (by rw [ht7.out, ht8.out, sigTx]; simp)
      go_wp2_with fail
      go_roundw
      case rel => exact ⟨k + 1, by omega, by go_num, Lib.hid (by rw [HSK.out, ← HET.out]; exact HF9.out)⟩
      case measure => simp [intOf]; omega
    · obtain rfl : k = p.f0.length := by omega
      have hca := (HFK.out.below.cell (World.block_lt_of_cell? _ _ HC1.out)).trans HC1.out
      have HSL := Lib.hid (sigs_le HO.out p.f0.length (by omega))
      obtain ⟨x0, hx0⟩ : ∃ x0, upto (sigAt p.f0) p.f0.length = x0 := ⟨_, rfl⟩
      have HX0 := Lib.hid hx0
      have hx0l : x0.length ≤ 23100000 := by rw [← hx0]; exact HSL.out
      rw [hx0] at HFK
      clear hx0 HSL
      go_wp2_with fail
      clear hca
      go_loopw [38] (fun v38 wr => ∃ k : Nat, k ≤ p.f1.length ∧ v38 = I k ∧ Hid (FW 56 w b (x0 ++ upto (classAt p.f1) k) wr)) (fun v38 _ => p.f1.length - (intOf v38).toNat)
      case atStart => exact ⟨0, Nat.zero_le _, rfl, Lib.hid (by simpa [upto_zero] using HFK.out)⟩
      case round =>
        clear HFK
        obtain ⟨k, hk, rfl, HFK⟩ := hrel
        by_cases hlt : k < p.f1.length
        · obtain ⟨ad, A8, c8, A9, c9, e, hx0, hx1, hl8, hi8, hl9, hi9⟩ := at_T38 HG1.out (k : Int) (by omega) (by omega)
          subst e
          replace hx0 := (HFK.out.below.cell (World.block_lt_of_cell? _ _ hx0)).trans hx0
          replace hx1 := (HFK.out.below.cell (World.block_lt_of_cell? _ _ hx1)).trans hx1
          have HOK := Lib.hid (getD_ok HO.out.c (d := z38) hlt)
          have HSL := Lib.hid (classes_le HO.out k (by omega))
          have HSK : Hid (upto (classAt p.f1) (k + 1) = upto (classAt p.f1) k ++ classTx (p.f1.getD k z38)) := Lib.hid (upto_succ _ k)
          rw [Int.toNat_natCast] at hx0 hx1 hl8 hi8 hl9 hi9
          obtain ⟨o, ho⟩ : ∃ o, p.f1.getD k z38 = o := ⟨_, rfl⟩
          rw [ho] at hx0 hx1 hl8 hi8 hl9 hi9 HOK HSK
          clear ho
          have HI8 := Lib.hid hi8
          have HI9 := Lib.hid hi9
          clear hi8 hi9
          go_upto_region 12 with fail
          have HC8 := Lib.hid hl8
          have HC9 := Lib.hid hl9
          clear hx0 hx1
          have HF1 := Lib.hid (HFK.out.alloc (.cells #[.slice A8 o.f0.length c8, .slice A9 o.f1.length c9] 38))
          have HAK1 := Lib.hid (Arr.new wr 38 #[.slice A8 o.f0.length c8, .slice A9 o.f1.length c9])
          have HNK : Hid (wr.heap.size ≠ b) := Lib.hid (by have := HFK.out.lt; omega)
          obtain ⟨x2, hx2⟩ : ∃ x2, x0 ++ upto (classAt p.f1) k = x2 := ⟨_, rfl⟩
          have HX2 := Lib.hid hx2
          have hx2l : x2.length ≤ 70000000 := by rw [← hx2, List.length_append]; have := HSL.out; omega
          rw [hx2] at HF1
          obtain ⟨WK, hWK⟩ : ∃ WK, wr.alloc (.cells #[.slice A8 o.f0.length c8, .slice A9 o.f1.length c9] 38) = WK := ⟨_, rfl⟩
          obtain ⟨bo, hbo⟩ : ∃ bo, wr.heap.size = bo := ⟨_, rfl⟩
          rw [hWK] at HF1 HAK1
          rw [hbo] at HAK1 HNK
          rw [hWK, hbo]
          clear hx2 HFK hWK hbo HSL
          refine wp_region_y (fun w' => w'.cell? ⟨bo, 0, none⟩ = some (.slice A8 o.f0.length c8) ∧ w'.cell? ⟨bo, 1, none⟩ = some (.slice A9 o.f1.length c9)) [] (by kernel_rfl) ?_
          have hS0 : WK.drew.cell? ⟨bo, 0, none⟩ = some (.slice A8 o.f0.length c8) ∧ WK.drew.cell? ⟨bo, 1, none⟩ = some (.slice A9 o.f1.length c9) := ⟨HAK1.out.cell 0, HAK1.out.cell 1⟩
          refine wpY_pure (i := 0) (v := ?_) rfl (by kernel_rfl) (fun _ _ _ h => h) (Or.inl ⟨rfl, ?_⟩) (fun _ => hS0) ?_
          rotate_left
          · intro W _
            go_simp
            try (with_reducible rfl)
          refine wpY_take (i := 1) (v := ?_) rfl (by kernel_rfl) (fun _ _ _ h => h) (Or.inl ⟨rfl, ?_⟩) hS0 ?_
          rotate_left
          · rintro W ⟨s0, s1⟩
            go_simp
            try (with_reducible rfl)
          refine wpY_pure (i := 5) (v := ?_) rfl (by kernel_rfl) (fun _ _ _ h => h) (Or.inl ⟨rfl, ?_⟩) (fun _ => hS0) ?_
          rotate_left
          · intro W _
            go_simp
            try (with_reducible rfl)
          refine wpY_take (i := 6) (v := ?_) rfl (by kernel_rfl) (fun _ _ _ h => h) (Or.inl ⟨rfl, ?_⟩) hS0 ?_
          rotate_left
          · rintro W ⟨s0, s1⟩
            go_simp
            try (with_reducible rfl)
          refine wpY_one (i := 2) rfl (by kernel_rfl) (fun K hK => ?_)
          go_simp
          refine (brackets_any _ 26 (.inr (.inl rfl)) tyTx tells_type tyTx_le A8 c8 o.f0 (Kd.C_below HI8.out HF1.out.drew.below) HC8.out HOK.out.1 (HF1.out.drew.vars HV.out)).mono ?_
          rintro e w7 ⟨t7, rfl, ht7, hl7, hb7⟩
          have HF7 := Lib.hid (HF1.out.drew.next hb7.out)
          have HAK7 := Lib.hid (HAK1.out.drew.below hb7.out)
          have hS1 : w7.cell? ⟨bo, 0, none⟩ = some (.slice A8 o.f0.length c8) ∧ w7.cell? ⟨bo, 1, none⟩ = some (.slice A9 o.f1.length c9) := ⟨HAK7.out.cell 0, HAK7.out.cell 1⟩
          go_wp2_with fail
          refine hK _ _ (fun _ => hS1) ?_
          clear hK K
          have hn1 : (9223372036854775807 < 6 + t7.length) = False := eq_false (by omega)
          have hn2 : (9223372036854775807 < 6 + t7.length + 2) = False := eq_false (by omega)
          refine wpY_pure (i := 3) (v := ?_) rfl (by kernel_rfl) (fun _ _ _ h => h) (Or.inl ⟨rfl, ?_⟩) (fun _ => hS1) ?_
          rotate_left
          · intro W _
            go_simp
            try (with_reducible rfl)
          refine wpY_pure (i := 4) (v := ?_) rfl (by kernel_rfl) (fun _ _ _ h => h) (Or.inl ⟨rfl, ?_⟩) (fun _ => hS1) ?_
          rotate_left
          · intro W _
            go_simp
            try (with_reducible rfl)
          refine wpY_one (i := 7) rfl (by kernel_rfl) (fun K hK => ?_)
          go_simp
          refine (many_any _ 28 (.inr (.inr rfl)) Lib.itoa tells_digits itoa_le22 A9 c9 o.f1 (Kd.C_below HI9.out HF7.out.below) HC9.out HOK.out.2 (HF7.out.vars HV.out)).mono ?_
          rintro e w8 ⟨t8, rfl, ht8, hl8b, hb8⟩
          have HF8 := Lib.hid (HF7.out.next hb8.out)
          have HAK8 := Lib.hid (HAK7.out.below hb8.out)
          have hS2 : w8.cell? ⟨bo, 0, none⟩ = some (.slice A8 o.f0.length c8) ∧ w8.cell? ⟨bo, 1, none⟩ = some (.slice A9 o.f1.length c9) := ⟨HAK8.out.cell 0, HAK8.out.cell 1⟩
          go_wp2_with fail
          refine hK _ _ (fun _ => hS2) ?_
          clear hK K
          have hn3 : (9223372036854775807 < 6 + t7.length + 2 + t8.length) = False := eq_false (by omega)
          have hn4 : (9223372036854775807 < 6 + t7.length + 2 + t8.length + 2) = False := eq_false (by omega)
          refine wpY_pure (i := 8) (v := ?_) rfl (by kernel_rfl) (fun _ _ _ h => h) (Or.inl ⟨rfl, ?_⟩) (fun _ => hS2) ?_
          rotate_left
          · intro W _
            go_simp
            try (with_reducible rfl)
          refine wpY_pure (i := 9) (v := ?_) rfl (by kernel_rfl) (fun _ _ _ h => h) (Or.inl ⟨rfl, ?_⟩) (fun _ => hS2) ?_
          rotate_left
          · intro W _
            go_simp
            try (with_reducible rfl)
          refine wpY_one (i := 10) rfl (by kernel_rfl) (fun K hK => ?_)
          go_simp
          refine (write56 w w8 b x2 ([99, 108, 97, 115, 115, 32] ++ t7 ++ [32, 91] ++ t8 ++ [93, 10]) _ (by (apply ByteArray.ext; simp [ByteArray.data_append])) HF8.out (by simp only [List.length_append, List.length_cons, List.length_nil]; omega)).mono ?_
          rintro e w9 ⟨n9, rfl, HF9, HW9⟩
          have HAK9 := Lib.hid (HAK8.out.wr HW9.out HNK.out (by decide))
          have hS3 : w9.cell? ⟨bo, 0, none⟩ = some (.slice A8 o.f0.length c8) ∧ w9.cell? ⟨bo, 1, none⟩ = some (.slice A9 o.f1.length c9) := ⟨HAK9.out.cell 0, HAK9.out.cell 1⟩
          go_wp2_with fail
          refine hK _ _ (fun _ => hS3) ?_
          clear hK K
          refine wpY_done (by kernel_rfl) ?_ _
          clear hS0 hS1 hS2 hS3
          clear hn1 hn2 hn3 hn4
          have HET : Hid ([99, 108, 97, 115, 115, 32] ++ t7 ++ [32, 91] ++ t8 ++ [93, 10] = classTx o) := Lib.hid (by rw [ht7.out, ht8.out, classTx]; simp)
          go_wp2_with fail
          go_roundw
          case rel => exact ⟨k + 1, by omega, by go_num, Lib.hid (by rw [HSK.out, ← HET.out, ← List.append_assoc, HX2.out]; exact HF9.out)⟩
          case measure => simp [intOf]; omega
        · obtain rfl : k = p.f1.length := by omega
          have hca := (HFK.out.below.cell (World.block_lt_of_cell? _ _ HC2.out)).trans HC2.out
          have HSL := Lib.hid (classes_le HO.out p.f1.length (by omega))
          obtain ⟨x1, hx1⟩ : ∃ x1, x0 ++ upto (classAt p.f1) p.f1.length = x1 := ⟨_, rfl⟩
          have HX1 := Lib.hid hx1
          have hx1l : x1.length ≤ 70000000 := by rw [← hx1, List.length_append]; have := HSL.out; omega
          rw [hx1] at HFK
          clear hx1 HSL
          go_wp2_with fail
          clear hca
          go_loopw [59] (fun v59 wr => ∃ k : Nat, k ≤ p.f2.length ∧ v59 = I k ∧ Hid (FW 56 w b (x1 ++ upto (funAt p.f2) k) wr)) (fun v59 _ => p.f2.length - (intOf v59).toNat)
          case atStart => exact ⟨0, Nat.zero_le _, rfl, Lib.hid (by simpa [upto_zero] using HFK.out)⟩
          case round =>
            clear HFK
            obtain ⟨k, hk, rfl, HFK⟩ := hrel
            by_cases hlt : k < p.f2.length
            · obtain ⟨ad, A8, c8, e, hx0, hx1, hl8, hi8⟩ := at_T41 HG2.out (k : Int) (by omega) (by omega)
              subst e
              replace hx0 := (HFK.out.below.cell (World.block_lt_of_cell? _ _ hx0)).trans hx0
              replace hx1 := (HFK.out.below.cell (World.block_lt_of_cell? _ _ hx1)).trans hx1
              have HOK := Lib.hid (getD_ok HO.out.f (d := z41) hlt)
              have HSL := Lib.hid (funs_le HO.out k (by omega))
              have HSK : Hid (upto (funAt p.f2) (k + 1) = upto (funAt p.f2) k ++ funTx (p.f2.getD k z41).f0 (p.f2.getD k z41).f1) := Lib.hid (upto_succ _ k)
              rw [Int.toNat_natCast] at hx0 hx1 hl8 hi8
              obtain ⟨o, ho⟩ : ∃ o, p.f2.getD k z41 = o := ⟨_, rfl⟩
              rw [ho] at hx0 hx1 hl8 hi8 HOK HSK
              clear ho
              have HI8 := Lib.hid hi8
              have HC8 := Lib.hid hl8
              clear hi8
              have HF1 := Lib.hid (HFK.out.alloc (.cells #[I o.f0, .slice A8 o.f1.length c8] 41))
              have hLx : (x1 ++ upto (funAt p.f2) k).length ≤ 130000000000000 := by rw [List.length_append]; have := HSL.out; omega
              have HLX := Lib.hid hLx
              clear hLx
              go_wp2_with fail
              refine (fun_any w _ b _ o.f0 A8 c8 o.f1 HI8.out HC8.out HOK.out HV.out HF1.out HLX.out).mono ?_
              rintro e w9 ⟨rfl, HF9⟩
              go_wp2_with fail
              go_roundw
              case rel => exact ⟨k + 1, by omega, by go_num, Lib.hid (by rw [HSK.out, ← List.append_assoc]; exact HF9.out)⟩
              case measure => simp [intOf]; omega
            · obtain rfl : k = p.f2.length := by omega
              have HSL := Lib.hid (funs_le HO.out p.f2.length (by omega))
              have HE : Hid (x1 ++ upto (funAt p.f2) p.f2.length = progTx p) := Lib.hid (by rw [← HX1.out, ← HX0.out, progTx])
              rw [HE.out] at HFK
              have hs := HFK.out.below.size
              have hbw := HFK.out.ge
              go_wp2_with fail
              refine (Tryd.Builder_String_any_k w.heap.size b _ _ HFK.out.bf (by omega)).mono ?_
              rintro e w4 ⟨rfl, h4, hb4, ho4⟩
              have HB4 := Lib.hid hb4
              clear h4 hb4 ho4
              go_wp2_with fail
              go_ret
              exact TX.mk rfl HL.out (HFK.out.below.trans HB4.out)
end Go.Proofs.YtacopdbldfgknaaDoor
