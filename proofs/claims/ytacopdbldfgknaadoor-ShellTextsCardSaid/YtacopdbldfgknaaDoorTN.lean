/- An end's text: the walk (printed by wip/mk_tn.py). -/
import Derived.Test.YtacopdbldfgknaaDoorTO
namespace Go.Proofs.YtacopdbldfgknaaDoor
open Go Go.RowKit PShellTexts YtacopdbldfgknaaDoorW.PrintWords YtacopdbldfgknaaDoorW.PrintMore

def EndV (e : S44) (A A2 : Option Addr) (c c2 : Nat) : Value := .agg #[I e.f0, I e.f1, I e.f2, I e.f3, .slice A e.f4.length c, .slice A2 e.f5.length c2]
theorem TX.mk' {w w' : World} {l : List UInt8} {M : Nat} {b : ByteArray} (h : b = B l) (hM : l.length ≤ M) (hb : Below w.heap.size w w') : TX w l M (.returned (.string b)) w' := by
  subst h
  exact ⟨_, rfl, Lib.hid rfl, hM, Lib.hid hb⟩
set_option maxHeartbeats 4000000 in
set_option maxRecDepth 100000 in
theorem end_any (w : World) (e : S44) (A A2 : Option Addr) (c c2 : Nat) (hr : Kd.C (Kd.int .i64) w A e.f4.length e.f4) (hc : e.f4.length ≤ c) (hr2 : Kd.C (Kd.int .i64) w A2 e.f5.length e.f5) (hc2 : e.f5.length ≤ c2) (ho : okE e) (hv : Vars w) :
    Calls Tryd.prog 41 #[EndV e A A2 c c2] w (TX w (endTx e) 47000) := by
  obtain ⟨f0, f1, f2, f3, f4, f5⟩ := e
  have HL := Lib.hid (endTx_le _ ho)
  have HO := Lib.hid ho
  have HB := Lib.hid (below_alloc w (.cells #[I f0, I f1, I f2, I f3, .slice A f4.length c, .slice A2 f5.length c2] 44))
  have hA := Arr.new w 44 #[I f0, I f1, I f2, I f3, .slice A f4.length c, .slice A2 f5.length c2]
  have HV := Lib.hid (hv.below HB.out)
  have HR := Lib.hid (Kd.C_below hr HB.out)
  have HR2 := Lib.hid (Kd.C_below hr2 HB.out)
  clear hr hr2 ho hv
  unfold EndV
  dsimp only at hc hc2 HR HR2 ⊢
  have e2 : (⟨#[41]⟩ : ByteArray) = B [41] := rfl
  have HT : Hid (∀ x y : List UInt8, B x ++ B y = B (x ++ y)) := Lib.hid B_app
  clear e2
  by_cases h0 : f0 = 0
  · have HE : Hid (endTx ⟨f0, f1, f2, f3, f4, f5⟩ = [106, 117, 109, 112, 32] ++ toTx f2 f4) := Lib.hid (by rw [endTx, if_pos h0])
    subst h0
    go_enter Tryd.func41, Tryd.ntmps41
    go_upto_region 3 with fail
    obtain ⟨bx, hbx⟩ : ∃ bx, w.heap.size = bx := ⟨_, rfl⟩
    obtain ⟨W, hW⟩ : ∃ W, w.alloc (.cells #[I 0, I f1, I f2, I f3, .slice A f4.length c, .slice A2 f5.length c2] 44) = W := ⟨_, rfl⟩
    rw [hW] at HB hA HV HR HR2
    rw [hW]
    rw [hbx] at hA
    rw [hbx]
    have HA := Lib.hid hA
    have HBX := Lib.hid hbx
    clear hW hA hbx
    have HV1 : Hid (Vars W.drew) := Lib.hid (HV.out.below (Below.refl _ _).drew)
    have HB1 : Hid (Below W.heap.size W W.drew) := Lib.hid (Below.refl _ _).drew
    refine wp_region_y (fun w' => w'.cell? ⟨bx, 2, none⟩ = some (I f2) ∧ w'.cell? ⟨bx, 4, none⟩ = some (.slice A f4.length c)) [] (by kernel_rfl) ?_
    have hS0 : W.drew.cell? ⟨bx, 2, none⟩ = some (I f2) ∧ W.drew.cell? ⟨bx, 4, none⟩ = some (.slice A f4.length c) := ⟨HA.out.cell 2, HA.out.cell 4⟩
    refine wpY_pure (i := 0) (v := ?_) rfl (by kernel_rfl) (fun _ _ _ h => h) (Or.inl ⟨rfl, ?_⟩) (fun _ => hS0) ?_
    rotate_left
    · intro W _
      go_simp
      try (with_reducible rfl)
    refine wpY_take (i := 1) (v := ?_) rfl (by kernel_rfl) (fun _ _ _ h => h) (Or.inl ⟨rfl, ?_⟩) hS0 ?_
    rotate_left
    · rintro W ⟨s0, s1⟩
      go_simp
      try (with_reducible rfl)
    refine wpY_pure (i := 4) (v := ?_) rfl (by kernel_rfl) (fun _ _ _ h => h) (Or.inl ⟨rfl, ?_⟩) (fun _ => hS0) ?_
    rotate_left
    · intro W _
      go_simp
      try (with_reducible rfl)
    refine wpY_take (i := 5) (v := ?_) rfl (by kernel_rfl) (fun _ _ _ h => h) (Or.inl ⟨rfl, ?_⟩) hS0 ?_
    rotate_left
    · rintro W ⟨s0, s1⟩
      go_simp
      try (with_reducible rfl)
    refine wpY_one (i := 2) rfl (by kernel_rfl) (fun K hK => ?_)
    go_simp
    refine (sdigits _ f2 HO.out.2.2.1 HV1.out).mono ?_
    rintro e w2 ⟨t2, rfl, ht2, hl2, hb2⟩
    have HB2 : Hid (Below W.heap.size W w2) := Lib.hid (HB1.out.trans (hb2.out.mono HB1.out.size))
    have HV2 : Hid (Vars w2) := Lib.hid (HV.out.below HB2.out)
    have hS1 : w2.cell? ⟨bx, 2, none⟩ = some (I f2) ∧ w2.cell? ⟨bx, 4, none⟩ = some (.slice A f4.length c) := ⟨(HA.out.below HB2.out).cell 2, (HA.out.below HB2.out).cell 4⟩
    go_wp2_with fail
    refine hK _ _ (fun _ => hS1) ?_
    clear hK K
    have hn1 : (9223372036854775807 < 5 + t2.length) = False := eq_false (by omega)
    refine wpY_pure (i := 3) (v := ?_) rfl (by kernel_rfl) (fun _ _ _ h => h) (Or.inl ⟨rfl, ?_⟩) (fun _ => hS1) ?_
    rotate_left
    · intro W _
      go_simp
      try (with_reducible rfl)
    refine wpY_one (i := 6) rfl (by kernel_rfl) (fun K hK => ?_)
    go_simp
    refine (brackets_any _ 39 (.inl rfl) vTx tells_value vTx_le A c f4 (Kd.C_below HR.out HB2.out) hc HO.out.2.2.2.2.1 HV2.out).mono ?_
    rintro e w3 ⟨t3, rfl, ht3, hl3, hb3⟩
    have HB3 : Hid (Below W.heap.size W w3) := Lib.hid (HB2.out.trans (hb3.out.mono HB2.out.size))
    have HV3 : Hid (Vars w3) := Lib.hid (HV.out.below HB3.out)
    have hS2 : w3.cell? ⟨bx, 2, none⟩ = some (I f2) ∧ w3.cell? ⟨bx, 4, none⟩ = some (.slice A f4.length c) := ⟨(HA.out.below HB3.out).cell 2, (HA.out.below HB3.out).cell 4⟩
    go_wp2_with fail
    refine hK _ _ (fun _ => hS2) ?_
    clear hK K
    have hn2 : (9223372036854775807 < 5 + t2.length + t3.length) = False := eq_false (by omega)
    refine wpY_pure (i := 7) (v := ?_) rfl (by kernel_rfl) (fun _ _ _ h => h) (Or.inl ⟨rfl, ?_⟩) (fun _ => hS2) ?_
    rotate_left
    · intro W _
      go_simp
      try (with_reducible rfl)
    refine wpY_pure (i := 8) (v := ?_) rfl (by kernel_rfl) (fun _ _ _ h => h) (Or.inl ⟨rfl, ?_⟩) (fun _ => hS2) ?_
    rotate_left
    · intro W _
      go_simp
      try (with_reducible rfl)
    refine wpY_done (by kernel_rfl) ?_ _
    clear hS0 hS1 hS2
    clear hn1 hn2
    go_wp2_with fail
    go_ret
    exact TX.mk' (by rw [HE.out]; simp only [toTx, List.cons_append]; apply ByteArray.ext; simp [ByteArray.data_append, ht2.out, ht3.out]) HL.out (HB.out.trans (HB3.out.mono HB.out.size))
  by_cases h1 : f0 = 1
  · have HE : Hid (endTx ⟨f0, f1, f2, f3, f4, f5⟩ = [98, 114, 97, 110, 99, 104, 32] ++ vTx f1 ++ 32 :: toTx f2 f4 ++ 32 :: toTx f3 f5) := Lib.hid (by rw [endTx, if_neg h0, if_pos h1])
    subst h1
    clear h0
    go_enter Tryd.func41, Tryd.ntmps41
    go_upto_region 5 with fail
    obtain ⟨bx, hbx⟩ : ∃ bx, w.heap.size = bx := ⟨_, rfl⟩
    obtain ⟨W, hW⟩ : ∃ W, w.alloc (.cells #[I 1, I f1, I f2, I f3, .slice A f4.length c, .slice A2 f5.length c2] 44) = W := ⟨_, rfl⟩
    rw [hW] at HB hA HV HR HR2
    rw [hW]
    rw [hbx] at hA
    rw [hbx]
    have HA := Lib.hid hA
    have HBX := Lib.hid hbx
    clear hW hA hbx
    have HV1 : Hid (Vars W.drew) := Lib.hid (HV.out.below (Below.refl _ _).drew)
    have HB1 : Hid (Below W.heap.size W W.drew) := Lib.hid (Below.refl _ _).drew
    refine wp_region_y (fun w' => w'.cell? ⟨bx, 1, none⟩ = some (I f1) ∧ w'.cell? ⟨bx, 2, none⟩ = some (I f2) ∧ w'.cell? ⟨bx, 3, none⟩ = some (I f3) ∧ w'.cell? ⟨bx, 4, none⟩ = some (.slice A f4.length c) ∧ w'.cell? ⟨bx, 5, none⟩ = some (.slice A2 f5.length c2)) [] (by kernel_rfl) ?_
    have hS0 : W.drew.cell? ⟨bx, 1, none⟩ = some (I f1) ∧ W.drew.cell? ⟨bx, 2, none⟩ = some (I f2) ∧ W.drew.cell? ⟨bx, 3, none⟩ = some (I f3) ∧ W.drew.cell? ⟨bx, 4, none⟩ = some (.slice A f4.length c) ∧ W.drew.cell? ⟨bx, 5, none⟩ = some (.slice A2 f5.length c2) := ⟨HA.out.cell 1, HA.out.cell 2, HA.out.cell 3, HA.out.cell 4, HA.out.cell 5⟩
    refine wpY_pure (i := 0) (v := ?_) rfl (by kernel_rfl) (fun _ _ _ h => h) (Or.inl ⟨rfl, ?_⟩) (fun _ => hS0) ?_
    rotate_left
    · intro W _
      go_simp
      try (with_reducible rfl)
    refine wpY_take (i := 1) (v := ?_) rfl (by kernel_rfl) (fun _ _ _ h => h) (Or.inl ⟨rfl, ?_⟩) hS0 ?_
    rotate_left
    · rintro W ⟨s0, s1, s2, s3, s4⟩
      go_simp
      try (with_reducible rfl)
    refine wpY_pure (i := 5) (v := ?_) rfl (by kernel_rfl) (fun _ _ _ h => h) (Or.inl ⟨rfl, ?_⟩) (fun _ => hS0) ?_
    rotate_left
    · intro W _
      go_simp
      try (with_reducible rfl)
    refine wpY_take (i := 6) (v := ?_) rfl (by kernel_rfl) (fun _ _ _ h => h) (Or.inl ⟨rfl, ?_⟩) hS0 ?_
    rotate_left
    · rintro W ⟨s0, s1, s2, s3, s4⟩
      go_simp
      try (with_reducible rfl)
    refine wpY_pure (i := 9) (v := ?_) rfl (by kernel_rfl) (fun _ _ _ h => h) (Or.inl ⟨rfl, ?_⟩) (fun _ => hS0) ?_
    rotate_left
    · intro W _
      go_simp
      try (with_reducible rfl)
    refine wpY_take (i := 10) (v := ?_) rfl (by kernel_rfl) (fun _ _ _ h => h) (Or.inl ⟨rfl, ?_⟩) hS0 ?_
    rotate_left
    · rintro W ⟨s0, s1, s2, s3, s4⟩
      go_simp
      try (with_reducible rfl)
    refine wpY_pure (i := 14) (v := ?_) rfl (by kernel_rfl) (fun _ _ _ h => h) (Or.inl ⟨rfl, ?_⟩) (fun _ => hS0) ?_
    rotate_left
    · intro W _
      go_simp
      try (with_reducible rfl)
    refine wpY_take (i := 15) (v := ?_) rfl (by kernel_rfl) (fun _ _ _ h => h) (Or.inl ⟨rfl, ?_⟩) hS0 ?_
    rotate_left
    · rintro W ⟨s0, s1, s2, s3, s4⟩
      go_simp
      try (with_reducible rfl)
    refine wpY_pure (i := 18) (v := ?_) rfl (by kernel_rfl) (fun _ _ _ h => h) (Or.inl ⟨rfl, ?_⟩) (fun _ => hS0) ?_
    rotate_left
    · intro W _
      go_simp
      try (with_reducible rfl)
    refine wpY_take (i := 19) (v := ?_) rfl (by kernel_rfl) (fun _ _ _ h => h) (Or.inl ⟨rfl, ?_⟩) hS0 ?_
    rotate_left
    · rintro W ⟨s0, s1, s2, s3, s4⟩
      go_simp
      try (with_reducible rfl)
    refine wpY_one (i := 2) rfl (by kernel_rfl) (fun K hK => ?_)
    go_simp
    refine (value_any _ f1 HO.out.2.1 HV1.out).mono ?_
    rintro e w2 ⟨t2, rfl, ht2, hl2, hb2⟩
    have HB2 : Hid (Below W.heap.size W w2) := Lib.hid (HB1.out.trans (hb2.out.mono HB1.out.size))
    have HV2 : Hid (Vars w2) := Lib.hid (HV.out.below HB2.out)
    have hS1 : w2.cell? ⟨bx, 1, none⟩ = some (I f1) ∧ w2.cell? ⟨bx, 2, none⟩ = some (I f2) ∧ w2.cell? ⟨bx, 3, none⟩ = some (I f3) ∧ w2.cell? ⟨bx, 4, none⟩ = some (.slice A f4.length c) ∧ w2.cell? ⟨bx, 5, none⟩ = some (.slice A2 f5.length c2) := ⟨(HA.out.below HB2.out).cell 1, (HA.out.below HB2.out).cell 2, (HA.out.below HB2.out).cell 3, (HA.out.below HB2.out).cell 4, (HA.out.below HB2.out).cell 5⟩
    go_wp2_with fail
    refine hK _ _ (fun _ => hS1) ?_
    clear hK K
    have hn1 : (9223372036854775807 < 7 + t2.length) = False := eq_false (by omega)
    have hn2 : (9223372036854775807 < 7 + t2.length + 1) = False := eq_false (by omega)
    refine wpY_pure (i := 3) (v := ?_) rfl (by kernel_rfl) (fun _ _ _ h => h) (Or.inl ⟨rfl, ?_⟩) (fun _ => hS1) ?_
    rotate_left
    · intro W _
      go_simp
      try (with_reducible rfl)
    refine wpY_pure (i := 4) (v := ?_) rfl (by kernel_rfl) (fun _ _ _ h => h) (Or.inl ⟨rfl, ?_⟩) (fun _ => hS1) ?_
    rotate_left
    · intro W _
      go_simp
      try (with_reducible rfl)
    refine wpY_one (i := 7) rfl (by kernel_rfl) (fun K hK => ?_)
    go_simp
    refine (sdigits _ f2 HO.out.2.2.1 HV2.out).mono ?_
    rintro e w3 ⟨t3, rfl, ht3, hl3, hb3⟩
    have HB3 : Hid (Below W.heap.size W w3) := Lib.hid (HB2.out.trans (hb3.out.mono HB2.out.size))
    have HV3 : Hid (Vars w3) := Lib.hid (HV.out.below HB3.out)
    have hS2 : w3.cell? ⟨bx, 1, none⟩ = some (I f1) ∧ w3.cell? ⟨bx, 2, none⟩ = some (I f2) ∧ w3.cell? ⟨bx, 3, none⟩ = some (I f3) ∧ w3.cell? ⟨bx, 4, none⟩ = some (.slice A f4.length c) ∧ w3.cell? ⟨bx, 5, none⟩ = some (.slice A2 f5.length c2) := ⟨(HA.out.below HB3.out).cell 1, (HA.out.below HB3.out).cell 2, (HA.out.below HB3.out).cell 3, (HA.out.below HB3.out).cell 4, (HA.out.below HB3.out).cell 5⟩
    go_wp2_with fail
    refine hK _ _ (fun _ => hS2) ?_
    clear hK K
    have hn3 : (9223372036854775807 < 7 + t2.length + 1 + t3.length) = False := eq_false (by omega)
    refine wpY_pure (i := 8) (v := ?_) rfl (by kernel_rfl) (fun _ _ _ h => h) (Or.inl ⟨rfl, ?_⟩) (fun _ => hS2) ?_
    rotate_left
    · intro W _
      go_simp
      try (with_reducible rfl)
    refine wpY_one (i := 11) rfl (by kernel_rfl) (fun K hK => ?_)
    go_simp
    refine (brackets_any _ 39 (.inl rfl) vTx tells_value vTx_le A c f4 (Kd.C_below HR.out HB3.out) hc HO.out.2.2.2.2.1 HV3.out).mono ?_
    rintro e w4 ⟨t4, rfl, ht4, hl4, hb4⟩
    have HB4 : Hid (Below W.heap.size W w4) := Lib.hid (HB3.out.trans (hb4.out.mono HB3.out.size))
    have HV4 : Hid (Vars w4) := Lib.hid (HV.out.below HB4.out)
    have hS3 : w4.cell? ⟨bx, 1, none⟩ = some (I f1) ∧ w4.cell? ⟨bx, 2, none⟩ = some (I f2) ∧ w4.cell? ⟨bx, 3, none⟩ = some (I f3) ∧ w4.cell? ⟨bx, 4, none⟩ = some (.slice A f4.length c) ∧ w4.cell? ⟨bx, 5, none⟩ = some (.slice A2 f5.length c2) := ⟨(HA.out.below HB4.out).cell 1, (HA.out.below HB4.out).cell 2, (HA.out.below HB4.out).cell 3, (HA.out.below HB4.out).cell 4, (HA.out.below HB4.out).cell 5⟩
    go_wp2_with fail
    refine hK _ _ (fun _ => hS3) ?_
    clear hK K
    have hn4 : (9223372036854775807 < 7 + t2.length + 1 + t3.length + t4.length) = False := eq_false (by omega)
    have hn5 : (9223372036854775807 < 7 + t2.length + 1 + t3.length + t4.length + 1) = False := eq_false (by omega)
    refine wpY_pure (i := 12) (v := ?_) rfl (by kernel_rfl) (fun _ _ _ h => h) (Or.inl ⟨rfl, ?_⟩) (fun _ => hS3) ?_
    rotate_left
    · intro W _
      go_simp
      try (with_reducible rfl)
    refine wpY_pure (i := 13) (v := ?_) rfl (by kernel_rfl) (fun _ _ _ h => h) (Or.inl ⟨rfl, ?_⟩) (fun _ => hS3) ?_
    rotate_left
    · intro W _
      go_simp
      try (with_reducible rfl)
    refine wpY_one (i := 16) rfl (by kernel_rfl) (fun K hK => ?_)
    go_simp
    refine (sdigits _ f3 HO.out.2.2.2.1 HV4.out).mono ?_
    rintro e w5 ⟨t5, rfl, ht5, hl5, hb5⟩
    have HB5 : Hid (Below W.heap.size W w5) := Lib.hid (HB4.out.trans (hb5.out.mono HB4.out.size))
    have HV5 : Hid (Vars w5) := Lib.hid (HV.out.below HB5.out)
    have hS4 : w5.cell? ⟨bx, 1, none⟩ = some (I f1) ∧ w5.cell? ⟨bx, 2, none⟩ = some (I f2) ∧ w5.cell? ⟨bx, 3, none⟩ = some (I f3) ∧ w5.cell? ⟨bx, 4, none⟩ = some (.slice A f4.length c) ∧ w5.cell? ⟨bx, 5, none⟩ = some (.slice A2 f5.length c2) := ⟨(HA.out.below HB5.out).cell 1, (HA.out.below HB5.out).cell 2, (HA.out.below HB5.out).cell 3, (HA.out.below HB5.out).cell 4, (HA.out.below HB5.out).cell 5⟩
    go_wp2_with fail
    refine hK _ _ (fun _ => hS4) ?_
    clear hK K
    have hn6 : (9223372036854775807 < 7 + t2.length + 1 + t3.length + t4.length + 1 + t5.length) = False := eq_false (by omega)
    refine wpY_pure (i := 17) (v := ?_) rfl (by kernel_rfl) (fun _ _ _ h => h) (Or.inl ⟨rfl, ?_⟩) (fun _ => hS4) ?_
    rotate_left
    · intro W _
      go_simp
      try (with_reducible rfl)
    refine wpY_one (i := 20) rfl (by kernel_rfl) (fun K hK => ?_)
    go_simp
    refine (brackets_any _ 39 (.inl rfl) vTx tells_value vTx_le A2 c2 f5 (Kd.C_below HR2.out HB5.out) hc2 HO.out.2.2.2.2.2 HV5.out).mono ?_
    rintro e w6 ⟨t6, rfl, ht6, hl6, hb6⟩
    have HB6 : Hid (Below W.heap.size W w6) := Lib.hid (HB5.out.trans (hb6.out.mono HB5.out.size))
    have HV6 : Hid (Vars w6) := Lib.hid (HV.out.below HB6.out)
    have hS5 : w6.cell? ⟨bx, 1, none⟩ = some (I f1) ∧ w6.cell? ⟨bx, 2, none⟩ = some (I f2) ∧ w6.cell? ⟨bx, 3, none⟩ = some (I f3) ∧ w6.cell? ⟨bx, 4, none⟩ = some (.slice A f4.length c) ∧ w6.cell? ⟨bx, 5, none⟩ = some (.slice A2 f5.length c2) := ⟨(HA.out.below HB6.out).cell 1, (HA.out.below HB6.out).cell 2, (HA.out.below HB6.out).cell 3, (HA.out.below HB6.out).cell 4, (HA.out.below HB6.out).cell 5⟩
    go_wp2_with fail
    refine hK _ _ (fun _ => hS5) ?_
    clear hK K
    have hn7 : (9223372036854775807 < 7 + t2.length + 1 + t3.length + t4.length + 1 + t5.length + t6.length) = False := eq_false (by omega)
    refine wpY_pure (i := 21) (v := ?_) rfl (by kernel_rfl) (fun _ _ _ h => h) (Or.inl ⟨rfl, ?_⟩) (fun _ => hS5) ?_
    rotate_left
    · intro W _
      go_simp
      try (with_reducible rfl)
    refine wpY_pure (i := 22) (v := ?_) rfl (by kernel_rfl) (fun _ _ _ h => h) (Or.inl ⟨rfl, ?_⟩) (fun _ => hS5) ?_
    rotate_left
    · intro W _
      go_simp
      try (with_reducible rfl)
    refine wpY_done (by kernel_rfl) ?_ _
    clear hS0 hS1 hS2 hS3 hS4 hS5
    clear hn1 hn2 hn3 hn4 hn5 hn6 hn7
    go_wp2_with fail
    go_ret
    exact TX.mk' (by rw [HE.out]; simp only [toTx, List.cons_append]; apply ByteArray.ext; simp [ByteArray.data_append, ht2.out, ht3.out, ht4.out, ht5.out, ht6.out]) HL.out (HB.out.trans (HB6.out.mono HB.out.size))
  by_cases h2 : f0 = 2
  · have HE : Hid (endTx ⟨f0, f1, f2, f3, f4, f5⟩ = [114, 101, 116, 32] ++ vTx f1) := Lib.hid (by rw [endTx, if_neg h0, if_neg h1, if_pos h2])
    subst h2
    clear h0 h1
    have HA := Lib.hid hA
    have hc1 : (w.alloc (.cells #[I 2, I f1, I f2, I f3, .slice A f4.length c, .slice A2 f5.length c2] 44)).cell? ⟨w.heap.size, 1, none⟩ = some (I f1) := hA.cell 1
    clear hA
    go_enter Tryd.func41, Tryd.ntmps41
    go_wp2_with fail
    refine (value_any _ f1 HO.out.2.1 HV.out).mono ?_
    rintro e w2 ⟨t2, rfl, ht2, hl2, hb2⟩
    go_wp2_with fail
    go_ret
    exact TX.mk' (by rw [HE.out, ← ht2.out]; apply ByteArray.ext; simp [ByteArray.data_append]) HL.out (HB.out.trans (hb2.out.mono HB.out.size))
  by_cases h3 : f0 = 3
  · have HE : Hid (endTx ⟨f0, f1, f2, f3, f4, f5⟩ = [115, 116, 111, 112, 32] ++ vTx f1) := Lib.hid (by rw [endTx, if_neg h0, if_neg h1, if_neg h2, if_pos h3])
    subst h3
    clear h0 h1 h2
    have HA := Lib.hid hA
    have hc1 : (w.alloc (.cells #[I 3, I f1, I f2, I f3, .slice A f4.length c, .slice A2 f5.length c2] 44)).cell? ⟨w.heap.size, 1, none⟩ = some (I f1) := hA.cell 1
    clear hA
    go_enter Tryd.func41, Tryd.ntmps41
    go_wp2_with fail
    refine (value_any _ f1 HO.out.2.1 HV.out).mono ?_
    rintro e w2 ⟨t2, rfl, ht2, hl2, hb2⟩
    go_wp2_with fail
    go_ret
    exact TX.mk' (by rw [HE.out, ← ht2.out]; apply ByteArray.ext; simp [ByteArray.data_append]) HL.out (HB.out.trans (hb2.out.mono HB.out.size))
  have HE : Hid (endTx ⟨f0, f1, f2, f3, f4, f5⟩ = [63]) := Lib.hid (by rw [endTx, if_neg h0, if_neg h1, if_neg h2, if_neg h3])
  have b0 : (f0 == 0) = false := eq_f h0
  have b1 : (f0 == 1) = false := eq_f h1
  have b2 : (f0 == 2) = false := eq_f h2
  have b3 : (f0 == 3) = false := eq_f h3
  clear h0 h1 h2 h3
  go_enter Tryd.func41, Tryd.ntmps41
  go_wp2_with fail
  go_ret
  exact TX.mk (by rw [HE.out]) HL.out HB.out
end Go.Proofs.YtacopdbldfgknaaDoor
