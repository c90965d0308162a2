/- A program's text by the document: the walk (printed by wip/mk_ty.py). -/
import Derived.Test.YtacopdbldfgknaaDoorTX
namespace Go.Proofs.YtacopdbldfgknaaDoor
open Go Go.RowKit PShellTexts YtacopdbldfgknaaDoorW.PrintWords YtacopdbldfgknaaDoorW.PrintMore YtacopdbldfgknaaDoorW.PrintLast

theorem listR (w : World) (A : Option Addr) (c : Nat) (l : List Int) (how : Int) (f : Int → List UInt8) (hf : howF how = f) (hF : ∀ n, In n → (f n).length ≤ 22) (hr : Kd.C (Kd.int .i64) w A l.length l) (hc : l.length ≤ c) (hl : okL l) :
    Calls Tryd.prog 19 #[.slice A l.length c, I how] w (TX w (commas f l) 23000) := by
  subst hf
  obtain ⟨k, hk⟩ := (list_ev l hl how).rounds
  exact TX.of (hallmarkref06_list.calls k A c l how _ w hr hc hk) (commas_le hF hl)
theorem typeR (w : World) (n : Int) (h : In n) : Calls Tryd.prog 20 #[I n] w (TX w (tyTx n) 22) := by
  obtain ⟨k, hk⟩ := (type_ev n h).rounds
  exact TX.of (hallmarkref06_Type.calls k n _ w hk) (tyTx_le n h)
theorem funcR (w : World) (ret : Int) (A : Option Addr) (c : Nat) (bs : List S46) (hr : Kd.C k46 w A bs.length bs) (hc : bs.length ≤ c) (h : okF ret bs) :
    Calls Tryd.prog 21 #[.agg #[I ret, .slice A bs.length c]] w (TX w (funTx ret bs) 80200000100) := by
  obtain ⟨k, hk⟩ := (func_ev ret bs h).rounds
  exact TX.of (hallmarkref06_Func.calls k ret A c bs _ w hr hc hk) (funTx_le ret bs h)
theorem digitsR (w : World) (n : Int) (h : In n) : Calls Tryd.prog 9 #[I n] w (TX w (Lib.itoa n) 21) := by
  obtain ⟨k, hk⟩ := (num_ev n h.1 h.2).rounds
  exact TX.of (hallmarkref02_Digits.calls k n _ w hk) (itoa_le n h)
theorem T_lit (s : ByteArray) (l : List UInt8) (h : s = B l) : Value.string s = T l := by rw [h]
set_option maxHeartbeats 8000000 in
set_option maxRecDepth 100000 in
theorem progR (w : World) (bp : Nat) (p : S26) (hp : PM w bp p) (ho : okP p) :
    Calls Tryd.prog 11 #[.pointer (some ⟨bp, 0, none⟩)] w (TX w (progTx p) 80200100000000) := by
  obtain ⟨A0, c0, A1, c1, A2, c2, ⟨hc0, hc1, hc2⟩, ⟨hl0, hg0⟩, ⟨hl1, hg1⟩, ⟨hl2, hg2⟩⟩ := hp.out
  have HL := Lib.hid (progTx_le ho)
  have HO := Lib.hid ho
  have HG0 := Lib.hid hg0
  have HG1 := Lib.hid hg1
  have HG2 := Lib.hid hg2
  have HC0 := Lib.hid hc0
  have HC1 := Lib.hid hc1
  have HC2 := Lib.hid hc2
  have hS := ho.ls
  have hC := ho.lc
  have hFn := ho.lf
  clear hp ho hg0 hg1 hg2 hc0 hc1 hc2
  go_enter Tryd.func11, Tryd.ntmps11
  go_upto_block 1 with fail
  go_loopw [3, 4] (fun v3 v4 wr => ∃ k : Nat, k ≤ p.f0.length ∧ v4 = I k ∧ v3 = .string (B (upto (sigAt p.f0) k)) ∧ Hid (Below w.heap.size w wr)) (fun _ v4 _ => p.f0.length - (intOf v4).toNat)
  case atStart => exact ⟨0, Nat.zero_le _, rfl, rfl, Lib.hid (Below.refl _ _)⟩
  case round =>
    obtain ⟨k, hk, rfl, rfl, HB⟩ := hrel
    have hsz := HB.out.size
    have hca := cell_b HC0.out HB.out
    by_cases hlt : k < p.f0.length
    · obtain ⟨ad, A8, c8, e, hx0, hx1, hl8, hi8⟩ := at_T36 HG0.out (k : Int) (by omega) (by omega)
      subst e
      replace hx0 := cell_b hx0 HB.out
      replace hx1 := cell_b hx1 HB.out
      have HOK := Lib.hid (getD_ok HO.out.s (d := z36) hlt)
      have HSL := Lib.hid (sigs_le HO.out k (by omega))
      have HSK : Hid (upto (sigAt p.f0) (k + 1) = upto (sigAt p.f0) k ++ sigTx (p.f0.getD k z36)) := Lib.hid (upto_succ _ k)
      rw [Int.toNat_natCast] at hx0 hx1 hl8 hi8
      obtain ⟨o, ho⟩ : ∃ o, p.f0.getD k z36 = o := ⟨_, rfl⟩
      rw [ho] at hx0 hx1 hl8 hi8 HOK HSK
      clear ho
      have HI8 := Lib.hid hi8
      have HC8 := Lib.hid hl8
      obtain ⟨x2, hx2⟩ : ∃ x2, upto (sigAt p.f0) k = x2 := ⟨_, rfl⟩
      have hx2l : x2.length ≤ 23100000 := by rw [← hx2]; exact HSL.out
      rw [hx2] at HSK ⊢
      clear hi8 hx2 HSL
      go_upto_region 7 with fail
      clear hl8
      have HHC := Lib.hid hca
      have HX0 := Lib.hid hx0
      have HX1 := Lib.hid hx1
      clear hca hx0 hx1
      refine wp_region_y (fun w' => w'.cell? ⟨bp, 0, none⟩ = some (.slice (some ad) p.f0.length c0) ∧ w'.cell? (ad.add (k * 2)) = some (.slice A8 o.f0.length c8) ∧ w'.cell? ⟨(ad.add (k * 2)).block, (ad.add (k * 2)).off + 1, none⟩ = some (I o.f1)) [] (by kernel_rfl) ?_
      have hS0 : wr.drew.cell? ⟨bp, 0, none⟩ = some (.slice (some ad) p.f0.length c0) ∧ wr.drew.cell? (ad.add (k * 2)) = some (.slice A8 o.f0.length c8) ∧ wr.drew.cell? ⟨(ad.add (k * 2)).block, (ad.add (k * 2)).off + 1, none⟩ = some (I o.f1) := ⟨cell_b HHC.out (Below.refl wr.heap.size wr).drew, cell_b HX0.out (Below.refl wr.heap.size wr).drew, cell_b HX1.out (Below.refl wr.heap.size wr).drew⟩
      have hlt' : decide ((k : Int) < (p.f0.length : Int)) = true := decide_eq_true (by omega)
      have hge' : decide (0 ≤ (k : Int)) = true := decide_eq_true (by omega)
      have hn1 : (9223372036854775807 < x2.length + 5) = False := eq_false (by omega)
      refine wpY_pure (i := 0) (v := ?_) rfl (by kernel_rfl) (fun _ _ _ h => h) (Or.inl ⟨rfl, ?_⟩) (fun _ => hS0) ?_
      rotate_left
      · intro W _
        go_simp
        try (with_reducible rfl)
      refine wpY_pure (i := 1) (v := ?_) rfl (by kernel_rfl) (fun _ _ _ h => h) (Or.inl ⟨rfl, ?_⟩) (fun _ => hS0) ?_
      rotate_left
      · intro W _
        go_simp
        try (with_reducible rfl)
      refine wpY_pure (i := 2) (v := ?_) rfl (by kernel_rfl) (fun _ _ _ h => h) (Or.inl ⟨rfl, ?_⟩) (fun _ => hS0) ?_
      rotate_left
      · intro W _
        go_simp
        try (with_reducible rfl)
      refine wpY_pure (i := 3) (v := ?_) rfl (by kernel_rfl) (fun _ _ _ h => h) (Or.inl ⟨rfl, ?_⟩) (fun _ => hS0) ?_
      rotate_left
      · intro W _
        go_simp
        try (with_reducible rfl)
      refine wpY_pure (i := 4) (v := ?_) rfl (by kernel_rfl) (fun _ _ _ h => h) (Or.inl ⟨rfl, ?_⟩) (fun _ => hS0) ?_
      rotate_left
      · intro W _
        go_simp
        try (with_reducible rfl)
      refine wpY_take (i := 5) (v := ?_) rfl (by kernel_rfl) (fun _ _ _ h => h) (Or.inl ⟨rfl, ?_⟩) hS0 ?_
      rotate_left
      · rintro W ⟨s0, s1, s2⟩
        go_simp
        try (with_reducible rfl)
      refine wpY_pure (i := 6) (v := ?_) rfl (by kernel_rfl) (fun _ _ _ h => h) (Or.inl ⟨rfl, ?_⟩) (fun _ => hS0) ?_
      rotate_left
      · intro W _
        go_simp
        try (with_reducible rfl)
      refine wpY_pure (i := 7) (v := ?_) rfl (by kernel_rfl) (fun _ _ _ h => h) (Or.inl ⟨rfl, ?_⟩) (fun _ => hS0) ?_
      rotate_left
      · intro W _
        go_simp
        try (with_reducible rfl)
      refine wpY_pure (i := 8) (v := ?_) rfl (by kernel_rfl) (fun _ _ _ h => h) (Or.inl ⟨rfl, ?_⟩) (fun _ => hS0) ?_
      rotate_left
      · intro W _
        go_simp
        try (with_reducible rfl)
      refine wpY_take (i := 9) (v := ?_) rfl (by kernel_rfl) (fun _ _ _ h => h) (Or.inl ⟨rfl, ?_⟩) hS0 ?_
      rotate_left
      · rintro W ⟨s0, s1, s2⟩
        go_simp
        try (with_reducible rfl)
      refine wpY_pure (i := 13) (v := ?_) rfl (by kernel_rfl) (fun _ _ _ h => h) (Or.inl ⟨rfl, ?_⟩) (fun _ => hS0) ?_
      rotate_left
      · intro W _
        go_simp
        try (with_reducible rfl)
      refine wpY_pure (i := 14) (v := ?_) rfl (by kernel_rfl) (fun _ _ _ h => h) (Or.inl ⟨rfl, ?_⟩) (fun _ => hS0) ?_
      rotate_left
      · intro W _
        go_simp
        try (with_reducible rfl)
      refine wpY_pure (i := 15) (v := ?_) rfl (by kernel_rfl) (fun _ _ _ h => h) (Or.inl ⟨rfl, ?_⟩) (fun _ => hS0) ?_
      rotate_left
      · intro W _
        go_simp
        try (with_reducible rfl)
      refine wpY_take (i := 16) (v := ?_) rfl (by kernel_rfl) (fun _ _ _ h => h) (Or.inl ⟨rfl, ?_⟩) hS0 ?_
      rotate_left
      · rintro W ⟨s0, s1, s2⟩
        go_simp
        try (with_reducible rfl)
      refine wpY_pure (i := 17) (v := ?_) rfl (by kernel_rfl) (fun _ _ _ h => h) (Or.inl ⟨rfl, ?_⟩) (fun _ => hS0) ?_
      rotate_left
      · intro W _
        go_simp
        try (with_reducible rfl)
      refine wpY_pure (i := 18) (v := ?_) rfl (by kernel_rfl) (fun _ _ _ h => h) (Or.inl ⟨rfl, ?_⟩) (fun _ => hS0) ?_
      rotate_left
      · intro W _
        go_simp
        try (with_reducible rfl)
      refine wpY_pure (i := 19) (v := ?_) rfl (by kernel_rfl) (fun _ _ _ h => h) (Or.inl ⟨rfl, ?_⟩) (fun _ => hS0) ?_
      rotate_left
      · intro W _
        go_simp
        try (with_reducible rfl)
      refine wpY_take (i := 20) (v := ?_) rfl (by kernel_rfl) (fun _ _ _ h => h) (Or.inl ⟨rfl, ?_⟩) hS0 ?_
      rotate_left
      · rintro W ⟨s0, s1, s2⟩
        go_simp
        try (with_reducible rfl)
      refine wpY_one (i := 10) rfl (by kernel_rfl) (fun K hK => ?_)
      go_simp
      refine (listR _ A8 c8 o.f0 0 tyTx rfl tyTx_le (Kd.C_below HI8.out (HB.out.trans ((Below.refl _ _).drew.mono hsz))) HC8.out HOK.out.1).mono ?_
      rintro e w7 ⟨t7, rfl, ht7, hl7, hb7⟩
      have HB7 : Hid (Below wr.heap.size wr w7) := Lib.hid ((Below.refl wr.heap.size wr).drew.trans hb7.out)
      have hS1 : w7.cell? ⟨bp, 0, none⟩ = some (.slice (some ad) p.f0.length c0) ∧ w7.cell? (ad.add (k * 2)) = some (.slice A8 o.f0.length c8) ∧ w7.cell? ⟨(ad.add (k * 2)).block, (ad.add (k * 2)).off + 1, none⟩ = some (I o.f1) := ⟨cell_b HHC.out HB7.out, cell_b HX0.out HB7.out, cell_b HX1.out HB7.out⟩
      go_wp2_with fail
      refine hK _ _ (fun _ => hS1) ?_
      clear hK K
      have hn2 : (9223372036854775807 < x2.length + 5 + t7.length) = False := eq_false (by omega)
      have hn3 : (9223372036854775807 < x2.length + 5 + t7.length + 2) = False := eq_false (by omega)
      refine wpY_pure (i := 11) (v := ?_) rfl (by kernel_rfl) (fun _ _ _ h => h) (Or.inl ⟨rfl, ?_⟩) (fun _ => hS1) ?_
      rotate_left
      · intro W _
        go_simp
        try (with_reducible rfl)
      refine wpY_pure (i := 12) (v := ?_) rfl (by kernel_rfl) (fun _ _ _ h => h) (Or.inl ⟨rfl, ?_⟩) (fun _ => hS1) ?_
      rotate_left
      · intro W _
        go_simp
        try (with_reducible rfl)
      refine wpY_one (i := 21) rfl (by kernel_rfl) (fun K hK => ?_)
      go_simp
      refine (typeR _ o.f1 HOK.out.2).mono ?_
      rintro e w8 ⟨t8, rfl, ht8, hl8b, hb8⟩
      have HB8 : Hid (Below wr.heap.size wr w8) := Lib.hid (HB7.out.trans (hb8.out.mono HB7.out.size))
      have hS2 : w8.cell? ⟨bp, 0, none⟩ = some (.slice (some ad) p.f0.length c0) ∧ w8.cell? (ad.add (k * 2)) = some (.slice A8 o.f0.length c8) ∧ w8.cell? ⟨(ad.add (k * 2)).block, (ad.add (k * 2)).off + 1, none⟩ = some (I o.f1) := ⟨cell_b HHC.out HB8.out, cell_b HX0.out HB8.out, cell_b HX1.out HB8.out⟩
      go_wp2_with fail
      refine hK _ _ (fun _ => hS2) ?_
      clear hK K
      have hn4 : (9223372036854775807 < x2.length + 5 + t7.length + 2 + t8.length) = False := eq_false (by omega)
      have hn5 : (9223372036854775807 < x2.length + 5 + t7.length + 2 + t8.length + 1) = False := eq_false (by omega)
      refine wpY_pure (i := 22) (v := ?_) rfl (by kernel_rfl) (fun _ _ _ h => h) (Or.inl ⟨rfl, ?_⟩) (fun _ => hS2) ?_
      rotate_left
      · intro W _
        go_simp
        try (with_reducible rfl)
      refine wpY_pure (i := 23) (v := ?_) rfl (by kernel_rfl) (fun _ _ _ h => h) (Or.inl ⟨rfl, ?_⟩) (fun _ => hS2) ?_
      rotate_left
      · intro W _
        go_simp
        try (with_reducible rfl)
      refine wpY_pure (i := 24) (v := ?_) rfl (by kernel_rfl) (fun _ _ _ h => h) (Or.inl ⟨rfl, ?_⟩) (fun _ => hS2) ?_
      rotate_left
      · intro W _
        go_simp
        try (with_reducible rfl)
      refine wpY_done (by kernel_rfl) ?_ _
      clear hS0 hS1 hS2
      clear hn1 hn2 hn3 hn4 hn5
      clear hlt' hge'
      have HET : Hid ([115, 105, 103, 32, 40] ++ t7 ++ [41, 32] ++ t8 ++ [10] = sigTx o) := Lib.hid (by rw [ht7.out, ht8.out, sigTx])
      go_wp2_with fail
      go_roundw
      case rel => exact ⟨k + 1, by omega, by go_num, T_lit _ _ (by rw [HSK.out, ← HET.out]; (apply ByteArray.ext; simp [ByteArray.data_append])), Lib.hid (HB.out.trans (HB8.out.mono hsz))⟩
      case measure => simp [intOf]; omega
    · obtain rfl : k = p.f0.length := by omega
      have HSL := Lib.hid (sigs_le HO.out p.f0.length (by omega))
      obtain ⟨x0, hx0⟩ : ∃ x0, upto (sigAt p.f0) p.f0.length = x0 := ⟨_, rfl⟩
      have HX0 := Lib.hid hx0
      have hx0l : x0.length ≤ 23100000 := by rw [← hx0]; exact HSL.out
      rw [hx0]
      clear hx0 HSL
      go_wp2_with fail
      clear hca
      go_loopw [3, 5] (fun v3 v5 wr => ∃ k : Nat, k ≤ p.f1.length ∧ v5 = I k ∧ v3 = .string (B (x0 ++ upto (classAt p.f1) k)) ∧ Hid (Below w.heap.size w wr)) (fun _ v5 _ => p.f1.length - (intOf v5).toNat)
      case atStart => exact ⟨0, Nat.zero_le _, rfl, by simp [upto_zero], HB⟩
      case round =>
        clear HB hsz
        obtain ⟨k, hk, rfl, rfl, HB⟩ := hrel
        have hsz := HB.out.size
        have hca := cell_b HC1.out HB.out
        by_cases hlt : k < p.f1.length
        · obtain ⟨ad, A8, c8, A9, c9, e, hx0, hx1, hl8, hi8, hl9, hi9⟩ := at_T38 HG1.out (k : Int) (by omega) (by omega)
          subst e
          replace hx0 := cell_b hx0 HB.out
          replace hx1 := cell_b hx1 HB.out
          have HOK := Lib.hid (getD_ok HO.out.c (d := z38) hlt)
          have HSL := Lib.hid (classes_le HO.out k (by omega))
          have HSK : Hid (upto (classAt p.f1) (k + 1) = upto (classAt p.f1) k ++ classTx (p.f1.getD k z38)) := Lib.hid (upto_succ _ k)
          rw [Int.toNat_natCast] at hx0 hx1 hl8 hi8 hl9 hi9
          obtain ⟨o, ho⟩ : ∃ o, p.f1.getD k z38 = o := ⟨_, rfl⟩
          rw [ho] at hx0 hx1 hl8 hi8 hl9 hi9 HOK HSK
          clear ho
          have HI8 := Lib.hid hi8
          have HC8 := Lib.hid hl8
          have HI9 := Lib.hid hi9
          have HC9 := Lib.hid hl9
          obtain ⟨x2, hx2⟩ : ∃ x2, x0 ++ upto (classAt p.f1) k = x2 := ⟨_, rfl⟩
          have hx2l : x2.length ≤ 70000000 := by rw [← hx2, List.length_append]; have := HSL.out; omega
          have HX2 := Lib.hid hx2
          rw [hx2]
          clear hi8 hi9 hx2 HSL
          go_upto_region 11 with fail
          clear hl8 hl9
          have HHC := Lib.hid hca
          have HX0 := Lib.hid hx0
          have HX1 := Lib.hid hx1
          clear hca hx0 hx1
          refine wp_region_y (fun w' => w'.cell? ⟨bp, 1, none⟩ = some (.slice (some ad) p.f1.length c1) ∧ w'.cell? (ad.add (k * 2)) = some (.slice A8 o.f0.length c8) ∧ w'.cell? ⟨(ad.add (k * 2)).block, (ad.add (k * 2)).off + 1, none⟩ = some (.slice A9 o.f1.length c9)) [] (by kernel_rfl) ?_
          have hS0 : wr.drew.cell? ⟨bp, 1, none⟩ = some (.slice (some ad) p.f1.length c1) ∧ wr.drew.cell? (ad.add (k * 2)) = some (.slice A8 o.f0.length c8) ∧ wr.drew.cell? ⟨(ad.add (k * 2)).block, (ad.add (k * 2)).off + 1, none⟩ = some (.slice A9 o.f1.length c9) := ⟨cell_b HHC.out (Below.refl wr.heap.size wr).drew, cell_b HX0.out (Below.refl wr.heap.size wr).drew, cell_b HX1.out (Below.refl wr.heap.size wr).drew⟩
          have hlt' : decide ((k : Int) < (p.f1.length : Int)) = true := decide_eq_true (by omega)
          have hge' : decide (0 ≤ (k : Int)) = true := decide_eq_true (by omega)
          have hn1 : (9223372036854775807 < x2.length + 7) = False := eq_false (by omega)
          refine wpY_pure (i := 0) (v := ?_) rfl (by kernel_rfl) (fun _ _ _ h => h) (Or.inl ⟨rfl, ?_⟩) (fun _ => hS0) ?_
          rotate_left
          · intro W _
            go_simp
            try (with_reducible rfl)
          refine wpY_pure (i := 1) (v := ?_) rfl (by kernel_rfl) (fun _ _ _ h => h) (Or.inl ⟨rfl, ?_⟩) (fun _ => hS0) ?_
          rotate_left
          · intro W _
            go_simp
            try (with_reducible rfl)
          refine wpY_pure (i := 2) (v := ?_) rfl (by kernel_rfl) (fun _ _ _ h => h) (Or.inl ⟨rfl, ?_⟩) (fun _ => hS0) ?_
          rotate_left
          · intro W _
            go_simp
            try (with_reducible rfl)
          refine wpY_pure (i := 3) (v := ?_) rfl (by kernel_rfl) (fun _ _ _ h => h) (Or.inl ⟨rfl, ?_⟩) (fun _ => hS0) ?_
          rotate_left
          · intro W _
            go_simp
            try (with_reducible rfl)
          refine wpY_pure (i := 4) (v := ?_) rfl (by kernel_rfl) (fun _ _ _ h => h) (Or.inl ⟨rfl, ?_⟩) (fun _ => hS0) ?_
          rotate_left
          · intro W _
            go_simp
            try (with_reducible rfl)
          refine wpY_take (i := 5) (v := ?_) rfl (by kernel_rfl) (fun _ _ _ h => h) (Or.inl ⟨rfl, ?_⟩) hS0 ?_
          rotate_left
          · rintro W ⟨s0, s1, s2⟩
            go_simp
            try (with_reducible rfl)
          refine wpY_pure (i := 6) (v := ?_) rfl (by kernel_rfl) (fun _ _ _ h => h) (Or.inl ⟨rfl, ?_⟩) (fun _ => hS0) ?_
          rotate_left
          · intro W _
            go_simp
            try (with_reducible rfl)
          refine wpY_pure (i := 7) (v := ?_) rfl (by kernel_rfl) (fun _ _ _ h => h) (Or.inl ⟨rfl, ?_⟩) (fun _ => hS0) ?_
          rotate_left
          · intro W _
            go_simp
            try (with_reducible rfl)
          refine wpY_pure (i := 8) (v := ?_) rfl (by kernel_rfl) (fun _ _ _ h => h) (Or.inl ⟨rfl, ?_⟩) (fun _ => hS0) ?_
          rotate_left
          · intro W _
            go_simp
            try (with_reducible rfl)
          refine wpY_take (i := 9) (v := ?_) rfl (by kernel_rfl) (fun _ _ _ h => h) (Or.inl ⟨rfl, ?_⟩) hS0 ?_
          rotate_left
          · rintro W ⟨s0, s1, s2⟩
            go_simp
            try (with_reducible rfl)
          refine wpY_pure (i := 13) (v := ?_) rfl (by kernel_rfl) (fun _ _ _ h => h) (Or.inl ⟨rfl, ?_⟩) (fun _ => hS0) ?_
          rotate_left
          · intro W _
            go_simp
            try (with_reducible rfl)
          refine wpY_pure (i := 14) (v := ?_) rfl (by kernel_rfl) (fun _ _ _ h => h) (Or.inl ⟨rfl, ?_⟩) (fun _ => hS0) ?_
          rotate_left
          · intro W _
            go_simp
            try (with_reducible rfl)
          refine wpY_pure (i := 15) (v := ?_) rfl (by kernel_rfl) (fun _ _ _ h => h) (Or.inl ⟨rfl, ?_⟩) (fun _ => hS0) ?_
          rotate_left
          · intro W _
            go_simp
            try (with_reducible rfl)
          refine wpY_take (i := 16) (v := ?_) rfl (by kernel_rfl) (fun _ _ _ h => h) (Or.inl ⟨rfl, ?_⟩) hS0 ?_
          rotate_left
          · rintro W ⟨s0, s1, s2⟩
            go_simp
            try (with_reducible rfl)
          refine wpY_pure (i := 17) (v := ?_) rfl (by kernel_rfl) (fun _ _ _ h => h) (Or.inl ⟨rfl, ?_⟩) (fun _ => hS0) ?_
          rotate_left
          · intro W _
            go_simp
            try (with_reducible rfl)
          refine wpY_pure (i := 18) (v := ?_) rfl (by kernel_rfl) (fun _ _ _ h => h) (Or.inl ⟨rfl, ?_⟩) (fun _ => hS0) ?_
          rotate_left
          · intro W _
            go_simp
            try (with_reducible rfl)
          refine wpY_pure (i := 19) (v := ?_) rfl (by kernel_rfl) (fun _ _ _ h => h) (Or.inl ⟨rfl, ?_⟩) (fun _ => hS0) ?_
          rotate_left
          · intro W _
            go_simp
            try (with_reducible rfl)
          refine wpY_take (i := 20) (v := ?_) rfl (by kernel_rfl) (fun _ _ _ h => h) (Or.inl ⟨rfl, ?_⟩) hS0 ?_
          rotate_left
          · rintro W ⟨s0, s1, s2⟩
            go_simp
            try (with_reducible rfl)
          refine wpY_one (i := 10) rfl (by kernel_rfl) (fun K hK => ?_)
          go_simp
          refine (listR _ A8 c8 o.f0 0 tyTx rfl tyTx_le (Kd.C_below HI8.out (HB.out.trans ((Below.refl _ _).drew.mono hsz))) HC8.out HOK.out.1).mono ?_
          rintro e w7 ⟨t7, rfl, ht7, hl7, hb7⟩
          have HB7 : Hid (Below wr.heap.size wr w7) := Lib.hid ((Below.refl wr.heap.size wr).drew.trans hb7.out)
          have hS1 : w7.cell? ⟨bp, 1, none⟩ = some (.slice (some ad) p.f1.length c1) ∧ w7.cell? (ad.add (k * 2)) = some (.slice A8 o.f0.length c8) ∧ w7.cell? ⟨(ad.add (k * 2)).block, (ad.add (k * 2)).off + 1, none⟩ = some (.slice A9 o.f1.length c9) := ⟨cell_b HHC.out HB7.out, cell_b HX0.out HB7.out, cell_b HX1.out HB7.out⟩
          go_wp2_with fail
          refine hK _ _ (fun _ => hS1) ?_
          clear hK K
          have hn2 : (9223372036854775807 < x2.length + 7 + t7.length) = False := eq_false (by omega)
          have hn3 : (9223372036854775807 < x2.length + 7 + t7.length + 3) = False := eq_false (by omega)
          refine wpY_pure (i := 11) (v := ?_) rfl (by kernel_rfl) (fun _ _ _ h => h) (Or.inl ⟨rfl, ?_⟩) (fun _ => hS1) ?_
          rotate_left
          · intro W _
            go_simp
            try (with_reducible rfl)
          refine wpY_pure (i := 12) (v := ?_) rfl (by kernel_rfl) (fun _ _ _ h => h) (Or.inl ⟨rfl, ?_⟩) (fun _ => hS1) ?_
          rotate_left
          · intro W _
            go_simp
            try (with_reducible rfl)
          refine wpY_one (i := 21) rfl (by kernel_rfl) (fun K hK => ?_)
          go_simp
          refine (listR _ A9 c9 o.f1 2 Lib.itoa rfl itoa_le22 (Kd.C_below HI9.out (HB.out.trans (HB7.out.mono hsz))) HC9.out HOK.out.2).mono ?_
          rintro e w8 ⟨t8, rfl, ht8, hl8b, hb8⟩
          have HB8 : Hid (Below wr.heap.size wr w8) := Lib.hid (HB7.out.trans (hb8.out.mono HB7.out.size))
          have hS2 : w8.cell? ⟨bp, 1, none⟩ = some (.slice (some ad) p.f1.length c1) ∧ w8.cell? (ad.add (k * 2)) = some (.slice A8 o.f0.length c8) ∧ w8.cell? ⟨(ad.add (k * 2)).block, (ad.add (k * 2)).off + 1, none⟩ = some (.slice A9 o.f1.length c9) := ⟨cell_b HHC.out HB8.out, cell_b HX0.out HB8.out, cell_b HX1.out HB8.out⟩
          go_wp2_with fail
          refine hK _ _ (fun _ => hS2) ?_
          clear hK K
          have hn4 : (9223372036854775807 < x2.length + 7 + t7.length + 3 + t8.length) = False := eq_false (by omega)
          have hn5 : (9223372036854775807 < x2.length + 7 + t7.length + 3 + t8.length + 2) = False := eq_false (by omega)
          refine wpY_pure (i := 22) (v := ?_) rfl (by kernel_rfl) (fun _ _ _ h => h) (Or.inl ⟨rfl, ?_⟩) (fun _ => hS2) ?_
          rotate_left
          · intro W _
            go_simp
            try (with_reducible rfl)
          refine wpY_pure (i := 23) (v := ?_) rfl (by kernel_rfl) (fun _ _ _ h => h) (Or.inl ⟨rfl, ?_⟩) (fun _ => hS2) ?_
          rotate_left
          · intro W _
            go_simp
            try (with_reducible rfl)
          refine wpY_pure (i := 24) (v := ?_) rfl (by kernel_rfl) (fun _ _ _ h => h) (Or.inl ⟨rfl, ?_⟩) (fun _ => hS2) ?_
          rotate_left
          · intro W _
            go_simp
            try (with_reducible rfl)
          refine wpY_done (by kernel_rfl) ?_ _
          clear hS0 hS1 hS2
          clear hn1 hn2 hn3 hn4 hn5
          clear hlt' hge'
          have HET : Hid ([99, 108, 97, 115, 115, 32, 40] ++ t7 ++ [41, 32, 91] ++ t8 ++ [93, 10] = classTx o) := Lib.hid (by rw [ht7.out, ht8.out, classTx])
          go_wp2_with fail
          go_roundw
          case rel => exact ⟨k + 1, by omega, by go_num, T_lit _ _ (by rw [HSK.out, ← HET.out, ← List.append_assoc, HX2.out]; (apply ByteArray.ext; simp [ByteArray.data_append])), Lib.hid (HB.out.trans (HB8.out.mono hsz))⟩
          case measure => simp [intOf]; omega
        · obtain rfl : k = p.f1.length := by omega
          have HSL := Lib.hid (classes_le HO.out p.f1.length (by omega))
          obtain ⟨x1, hx1⟩ : ∃ x1, x0 ++ upto (classAt p.f1) p.f1.length = x1 := ⟨_, rfl⟩
          have HX1 := Lib.hid hx1
          have hx1l : x1.length ≤ 70000000 := by rw [← hx1, List.length_append]; have := HSL.out; omega
          rw [hx1]
          clear hx1 HSL
          go_wp2_with fail
          clear hca
          go_loopw [3, 6] (fun v3 v6 wr => ∃ k : Nat, k ≤ p.f2.length ∧ v6 = I k ∧ v3 = .string (B (x1 ++ upto (funAt p.f2) k)) ∧ Hid (Below w.heap.size w wr)) (fun _ v6 _ => p.f2.length - (intOf v6).toNat)
          case atStart => exact ⟨0, Nat.zero_le _, rfl, by simp [upto_zero], HB⟩
          case round =>
            clear HB hsz
            obtain ⟨k, hk, rfl, rfl, HB⟩ := hrel
            have hsz := HB.out.size
            have hca := cell_b HC2.out HB.out
            by_cases hlt : k < p.f2.length
            · obtain ⟨ad, A8, c8, e, hx0, hx1, hl8, hi8⟩ := at_T41 HG2.out (k : Int) (by omega) (by omega)
              subst e
              replace hx0 := cell_b hx0 HB.out
              replace hx1 := cell_b hx1 HB.out
              have HOK := Lib.hid (getD_ok HO.out.f (d := z41) hlt)
              have HSL := Lib.hid (funs_le HO.out k (by omega))
              have HSK : Hid (upto (funAt p.f2) (k + 1) = upto (funAt p.f2) k ++ funTx (p.f2.getD k z41).f0 (p.f2.getD k z41).f1) := Lib.hid (upto_succ _ k)
              rw [Int.toNat_natCast] at hx0 hx1 hl8 hi8
              obtain ⟨o, ho⟩ : ∃ o, p.f2.getD k z41 = o := ⟨_, rfl⟩
              rw [ho] at hx0 hx1 hl8 hi8 HOK HSK
              clear ho
              have HI8 := Lib.hid hi8
              have HC8 := Lib.hid hl8
              clear hi8
              obtain ⟨x2, hx2⟩ : ∃ x2, x1 ++ upto (funAt p.f2) k = x2 := ⟨_, rfl⟩
              have hx2l : x2.length ≤ 130000000000000 := by rw [← hx2, List.length_append]; have := HSL.out; omega
              have HX2 := Lib.hid hx2
              rw [hx2]
              clear hx2 HSL
              go_wp2_with fail
              refine (funcR _ o.f0 A8 c8 o.f1 (Kd.C_below HI8.out HB.out) HC8.out HOK.out).mono ?_
              rintro e w7 ⟨t7, rfl, ht7, hl7, hb7⟩
              go_wp2_with fail
              go_roundw
              case rel => exact ⟨k + 1, by omega, by go_num, T_lit _ _ (by rw [HSK.out, ← ht7.out, ← List.append_assoc, HX2.out]; (apply ByteArray.ext; simp [ByteArray.data_append])), Lib.hid (HB.out.trans (hb7.out.mono hsz))⟩
              case measure => simp [intOf]; omega
            · obtain rfl : k = p.f2.length := by omega
              have HE : Hid (x1 ++ upto (funAt p.f2) p.f2.length = progTx p) := Lib.hid (by rw [← HX1.out, ← HX0.out, progTx])
              rw [HE.out]
              go_wp2_with fail
              go_ret
              exact TX.mk rfl HL.out HB.out
end Go.Proofs.YtacopdbldfgknaaDoor
