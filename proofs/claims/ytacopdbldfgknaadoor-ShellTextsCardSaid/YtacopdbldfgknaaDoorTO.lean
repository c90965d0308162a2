/- A step's text: the walk. -/
import Derived.Test.YtacopdbldfgknaaDoorTQ
namespace Go.Proofs.YtacopdbldfgknaaDoor
open Go Go.RowKit PShellTexts YtacopdbldfgknaaDoorW.PrintWords YtacopdbldfgknaaDoorW.PrintMore

theorem steps_name (w : World) (hv : Vars w) (n : Int) : Calls Tryd.prog 48 #[.slice (some ⟨2, 0, none⟩) 26 26, I n] w (TX w (nameTx stepW n) 6) :=
  name_any w 2 stepW 26 rfl stepW_le (fun i hi => var_cell g_steps hv.steps i hi) (by omega) n
theorem signs_name (w : World) (hv : Vars w) (n : Int) : Calls Tryd.prog 48 #[.slice (some ⟨3, 0, none⟩) 14 14, I n] w (TX w (nameTx signW n) 6) :=
  name_any w 3 signW 14 rfl signW_le (fun i hi => var_cell g_signs hv.signs i hi) (by omega) n
theorem flds_mem {c : UInt8} {k : Int} (h : c ∈ flds k) : c = 78 ∨ c = 83 ∨ c = 65 ∨ c = 66 ∨ c = 67 ∨ c = 76 ∨ c = 75 := by
  unfold flds at h
  split at h
  · rename_i hk
    have hn : k.toNat < fldW.length := by have : fldW.length = 26 := rfl; omega
    rw [List.getD_eq_getElem?_getD, List.getElem?_eq_getElem hn] at h
    have ha : ∀ x ∈ fldW, ∀ c ∈ x, c = 78 ∨ c = 83 ∨ c = 65 ∨ c = 66 ∨ c = 67 ∨ c = 76 ∨ c = 75 := by decide
    exact ha _ (List.getElem_mem hn) _ h
  · cases h
theorem T_cat (x t : List UInt8) : Value.string (B x ++ ((⟨#[32]⟩ : ByteArray) ++ B t)) = T (x ++ 32 :: t) := by
  have e : (⟨#[32]⟩ : ByteArray) = B [32] := rfl
  rw [e, B_app, B_app]; simp
theorem T_end (x : List UInt8) : Value.string (B x ++ (⟨#[32, 115, 116, 97, 99, 107]⟩ : ByteArray)) = T (x ++ [32, 115, 116, 97, 99, 107]) := by
  have e : (⟨#[32, 115, 116, 97, 99, 107]⟩ : ByteArray) = B [32, 115, 116, 97, 99, 107] := rfl
  rw [e, B_app]
def OpV (o : S48) (A : Option Addr) (c : Nat) : Value := .agg #[I o.f0, I o.f1, I o.f2, I o.f3, I o.f4, .string o.f5, .slice A o.f6.length c, .bool o.f7]
def opC (o : S48) (A : Option Addr) (c : Nat) : Array Value := #[I o.f0, I o.f1, I o.f2, I o.f3, I o.f4, .string o.f5, .slice A o.f6.length c, .bool o.f7]
set_option maxHeartbeats 4000000 in
set_option maxRecDepth 100000 in
theorem op_any (w : World) (o : S48) (A : Option Addr) (c : Nat) (hr : Kd.C (Kd.int .i64) w A o.f6.length o.f6) (hc : o.f6.length ≤ c) (ho : okO o) (hv : Vars w) :
    Calls Tryd.prog 40 #[OpV o A c] w (TX w (opTx o) 80000) := by
  obtain ⟨f0, f1, f2, f3, f4, f5, f6, f7⟩ := o
  have HL := Lib.hid (opTx_le _ ho)
  have HR := Lib.hid hr
  have HO := Lib.hid ho
  have HV := Lib.hid hv
  have HB := Lib.hid (below_alloc w (.cells #[I f0, I f1, I f2, I f3, I f4, .string f5, .slice A f6.length c, .bool f7] 48))
  have hA := Arr.new w 48 #[I f0, I f1, I f2, I f3, I f4, .string f5, .slice A f6.length c, .bool f7]
  clear hr ho hv
  unfold OpV
  dsimp only at hc ⊢
  go_enter Tryd.func40, Tryd.ntmps40
  go_upto_region 1 with fail
  obtain ⟨bx, hbx⟩ : ∃ bx, w.heap.size = bx := ⟨_, rfl⟩
  obtain ⟨W, hW⟩ : ∃ W, w.alloc (.cells #[I f0, I f1, I f2, I f3, I f4, .string f5, .slice A f6.length c, .bool f7] 48) = W := ⟨_, rfl⟩
  rw [hW] at HB hA
  rw [hW]
  rw [hbx] at hA
  rw [hbx]
  have HA := Lib.hid hA
  have HBX := Lib.hid hbx
  clear hW hA hbx
  have HV1 : Hid (Vars W.drew) := Lib.hid (HV.out.below ⟨HB.out.os, HB.out.tape, HB.out.output, HB.out.size, HB.out.block⟩)
  refine wp_region_y (fun w' => w'.cell? ⟨bx, 0, none⟩ = some (I f0)) [] (by kernel_rfl) ?_
  have hS0 : W.drew.cell? ⟨bx, 0, none⟩ = some (I f0) := HA.out.cell 0
  refine wpY_pure (i := 0) (v := ?_) rfl (by kernel_rfl) (fun _ _ _ h => h) (Or.inl ⟨rfl, ?_⟩) (fun _ => hS0) ?_
  rotate_left
  · intro W _
    go_simp
    try (with_reducible rfl)
  refine wpY_pure (i := 1) (v := ?_) rfl (by kernel_rfl) (fun _ _ _ h => h) (Or.inl ⟨rfl, ?_⟩) (fun _ => hS0) ?_
  rotate_left
  · intro W _
    go_simp
    try (with_reducible rfl)
  refine wpY_take (i := 2) (v := ?_) rfl (by kernel_rfl) (fun _ _ _ h => h) (Or.inl ⟨rfl, ?_⟩) hS0 ?_
  rotate_left
  · intro W s0
    go_simp
    try (with_reducible rfl)
  refine wpY_one (i := 3) rfl (by kernel_rfl) (fun K hK => ?_)
  go_simp
  refine (steps_name _ HV1.out f0).mono ?_
  rintro e w2 ⟨s, rfl, hs, hsl, hb2⟩
  have HA2 : Hid (Arr w2 bx 48 [I f0, I f1, I f2, I f3, I f4, .string f5, .slice A f6.length c, .bool f7]) := Lib.hid (HA.out.drew.below hb2.out)
  have hS1 : w2.cell? ⟨bx, 0, none⟩ = some (I f0) := HA2.out.cell 0
  go_wp2_with fail
  refine hK _ _ (fun _ => hS1) ?_
  clear hK K
  refine wpY_pure (i := 4) (v := ?_) rfl (by kernel_rfl) (fun _ _ _ h => h) (Or.inl ⟨rfl, ?_⟩) (fun _ => hS1) ?_
  rotate_left
  · intro W _
    go_simp
    try (with_reducible rfl)
  refine wpY_done (by kernel_rfl) ?_ _
  clear hS0
  have HW2 : Hid (Vars w2) := Lib.hid (HV1.out.below hb2.out)
  go_wp2_with fail
  refine (fields_any _ f0 HW2.out).mono ?_
  rintro e w3 ⟨fs, rfl, hfs, hfl, hb3⟩
  have HA3 : Hid (Arr w3 bx 48 [I f0, I f1, I f2, I f3, I f4, .string f5, .slice A f6.length c, .bool f7]) := Lib.hid (HA2.out.below hb3.out)
  clear hS1
  go_wp2_with fail
  rw [Lib.run_convert_string_bytes w3 9 54 5 (B fs) Tryd.underlying9 Tryd.underlying54 Tryd.underlying5]
  simp only [Result.andThen]
  rw [Oper.upon_value, B_size]
  have HB4 : Hid (Below w3.heap.size w3 (Lib.bytesWorld w3 5 (B fs))) := Lib.hid (bytes_below (Below.refl _ _) (Nat.le_refl _) 5 (B fs))
  have HC4 : Hid (∀ j, j < fs.length → (Lib.bytesWorld w3 5 (B fs)).cell? ⟨w3.heap.size, j, none⟩ = some (.int .u8 ((fs.getD j 0).toNat : Int))) := Lib.hid (fun j hj => by
    have := Lib.bytesWorld_cell w3 5 (B fs) j (by rw [B_size]; exact hj)
    simpa using this)
  have HL4 := Lib.hid (show w3.heap.size < (Lib.bytesWorld w3 5 (B fs)).heap.size by rw [Lib.bytesWorld_size]; omega)
  obtain ⟨cap, hcap⟩ : ∃ cap, grownCap w3 (B fs).size 0 5 = cap := ⟨_, rfl⟩
  obtain ⟨W4, hW4⟩ : ∃ W4, Lib.bytesWorld w3 5 (B fs) = W4 := ⟨_, rfl⟩
  obtain ⟨bf, hbf⟩ : ∃ bf, w3.heap.size = bf := ⟨_, rfl⟩
  rw [B_size] at hcap
  rw [hcap, hW4, hbf]
  rw [hW4] at HB4 HC4 HL4
  rw [hbf] at HC4 HL4
  have HA4 : Hid (Arr W4 bx 48 [I f0, I f1, I f2, I f3, I f4, .string f5, .slice A f6.length c, .bool f7]) := Lib.hid (HA3.out.below HB4.out)
  have HV4 : Hid (Vars W4) := Lib.hid ((HW2.out.below hb3.out).below HB4.out)
  have HBW : Hid (Below w.heap.size w W4) := Lib.hid (by
    have h0 := HB.out.size
    have h2 := hb2.out.size
    have h3 := hb3.out.size
    have h0' : w.heap.size ≤ W.drew.heap.size := h0
    exact ((HB.out.drew.trans (hb2.out.mono h0')).trans (hb3.out.mono (by omega))).trans (HB4.out.mono (by omega)))
  have HR4 : Hid (Kd.C (Kd.int .i64) W4 A f6.length f6) := Lib.hid (Kd.C_below HR.out HBW.out)
  have HT : Hid (nameTx stepW f0 = s) := Lib.hid hs.out.symm
  have HFS : Hid (flds f0 = fs) := Lib.hid hfs.out.symm
  clear hW4 hcap hbf hs hfs hb2 hb3 HA HA2 HA3 HV HV1 HW2 HB HB4 HR
  go_upto_block 1 with fail
  go_loopw [3, 15] (fun v3 v15 wr => ∃ (k : Nat) (x : List UInt8), k ≤ fs.length ∧ v15 = I k ∧ v3 = T x ∧ x.length ≤ 6 + k * 24100 ∧ Hid (x = s ++ (fs.take k).flatMap (fTx ⟨f0, f1, f2, f3, f4, f5, f6, f7⟩)) ∧ Hid (Below W4.heap.size W4 wr)) (fun _ v15 _ => fs.length - (intOf v15).toNat)
  case atStart => exact ⟨0, s, Nat.zero_le _, rfl, rfl, by omega, Lib.hid (by simp), Lib.hid (Below.refl _ _)⟩
  case round =>
    obtain ⟨k, x, hk, rfl, rfl, hx, HX, HBR⟩ := hrel
    have hsz := HBR.out.size
    have HAR : Hid (Arr wr bx 48 [I f0, I f1, I f2, I f3, I f4, .string f5, .slice A f6.length c, .bool f7]) := Lib.hid (HA4.out.below HBR.out)
    have HVR : Hid (Vars wr) := Lib.hid (HV4.out.below HBR.out)
    by_cases hlt : k < fs.length
    · have hcell := (HBR.out.cell (p := ⟨bf, k, none⟩) HL4.out).trans (HC4.out k hlt)
      have HE : Hid ((fs.take (k + 1)).flatMap (fTx ⟨f0, f1, f2, f3, f4, f5, f6, f7⟩) = (fs.take k).flatMap (fTx ⟨f0, f1, f2, f3, f4, f5, f6, f7⟩) ++ fTx ⟨f0, f1, f2, f3, f4, f5, f6, f7⟩ (fs.getD k 0)) := Lib.hid (by rw [List.take_succ_eq_append_getElem hlt, List.flatMap_append]; simp [hlt])
      have HM : Hid (fs.getD k 0 ∈ flds f0) := Lib.hid (by rw [HFS.out, List.getD_eq_getElem?_getD, List.getElem?_eq_getElem hlt]; exact List.getElem_mem hlt)
      have HFL := Lib.hid (fTx_le _ HO.out (fs.getD k 0))
      obtain ⟨cb, hcb⟩ : ∃ cb, fs.getD k 0 = cb := ⟨_, rfl⟩
      rw [hcb] at hcell HE HM HFL
      clear hcb
      rcases flds_mem HM.out with rfl | rfl | rfl | rfl | rfl | rfl | rfl
      · -- 78
        have hcell : wr.cell? ⟨bf, k, none⟩ = some (.int .u8 78) := hcell
        have hc0 : wr.cell? ⟨bx, 0, none⟩ = some (I f0) := HAR.out.cell 0
        by_cases h3 : f0 = 3
        · have hb3 : (f0 == 3) = true := eq_t h3
          have HF : Hid (fTx ⟨f0, f1, f2, f3, f4, f5, f6, f7⟩ 78 = 32 :: nameTx signW f4) := Lib.hid (by simp [fTx, h3])
          clear h3
          go_upto_region 6 with fail
          have HVD : Hid (Vars wr.drew) := Lib.hid (HVR.out.below (Below.refl _ _).drew)
          refine wp_region_y (fun w' => w'.cell? ⟨bx, 4, none⟩ = some (I f4)) [] (by kernel_rfl) ?_
          have hS0 : wr.drew.cell? ⟨bx, 4, none⟩ = some (I f4) := HAR.out.cell 4
          refine wpY_pure (i := 0) (v := ?_) rfl (by kernel_rfl) (fun _ _ _ h => h) (Or.inl ⟨rfl, ?_⟩) (fun _ => hS0) ?_
          rotate_left
          · intro W _
            go_simp
            try (with_reducible rfl)
          refine wpY_pure (i := 1) (v := ?_) rfl (by kernel_rfl) (fun _ _ _ h => h) (Or.inl ⟨rfl, ?_⟩) (fun _ => hS0) ?_
          rotate_left
          · intro W _
            go_simp
            try (with_reducible rfl)
          refine wpY_pure (i := 2) (v := ?_) rfl (by kernel_rfl) (fun _ _ _ h => h) (Or.inl ⟨rfl, ?_⟩) (fun _ => hS0) ?_
          rotate_left
          · intro W _
            go_simp
            try (with_reducible rfl)
          refine wpY_take (i := 3) (v := ?_) rfl (by kernel_rfl) (fun _ _ _ h => h) (Or.inl ⟨rfl, ?_⟩) hS0 ?_
          rotate_left
          · intro W s0
            go_simp
            try (with_reducible rfl)
          refine wpY_one (i := 4) rfl (by kernel_rfl) (fun K hK => ?_)
          go_simp
          refine (signs_name _ HVD.out f4).mono ?_
          rintro e w5 ⟨t, rfl, ht, htl, hb5⟩
          have hS1 : w5.cell? ⟨bx, 4, none⟩ = some (I f4) := (HAR.out.drew.below hb5.out).cell 4
          go_wp2_with fail
          refine hK _ _ (fun _ => hS1) ?_
          clear hK K
          have hn1 : (9223372036854775807 < 1 + t.length) = False := eq_false (by omega)
          have hn2 : (9223372036854775807 < x.length + (1 + t.length)) = False := eq_false (by omega)
          refine wpY_pure (i := 5) (v := ?_) rfl (by kernel_rfl) (fun _ _ _ h => h) (Or.inl ⟨rfl, ?_⟩) (fun _ => hS1) ?_
          rotate_left
          · intro W _
            go_simp
            try (with_reducible rfl)
          refine wpY_pure (i := 6) (v := ?_) rfl (by kernel_rfl) (fun _ _ _ h => h) (Or.inl ⟨rfl, ?_⟩) (fun _ => hS1) ?_
          rotate_left
          · intro W _
            go_simp
            try (with_reducible rfl)
          refine wpY_pure (i := 7) (v := ?_) rfl (by kernel_rfl) (fun _ _ _ h => h) (Or.inl ⟨rfl, ?_⟩) (fun _ => hS1) ?_
          rotate_left
          · intro W _
            go_simp
            try (with_reducible rfl)
          refine wpY_done (by kernel_rfl) ?_ _
          clear hS0 hS1 hn1 hn2
          have HB5 : Hid (Below wr.heap.size wr w5) := Lib.hid ((Below.refl _ _).drew.trans hb5.out)
          go_wp2_with fail
          go_roundw
          case rel =>
            exact ⟨k + 1, x ++ 32 :: t, by omega, by go_num, by rw [T_cat], by have := HFL.out; rw [HF.out, ← ht.out] at this; rw [List.length_append]; omega, Lib.hid (by rw [HE.out, HF.out, ← ht.out, HX.out, List.append_assoc]), Lib.hid (HBR.out.trans (HB5.out.mono hsz))⟩
          case measure => simp [intOf]; omega
        · have hb3 : (f0 == 3) = false := eq_f h3
          have HF : Hid (fTx ⟨f0, f1, f2, f3, f4, f5, f6, f7⟩ 78 = 32 :: Lib.itoa f4) := Lib.hid (by simp [fTx, h3])
          clear h3
          have hc4 : wr.cell? ⟨bx, 4, none⟩ = some (I f4) := HAR.out.cell 4
          go_wp2_with fail
          refine (tdigits _ f4 HO.out.2.2.2.2.1 HVR.out).mono ?_
          rintro e w5 ⟨t, rfl, ht, htl, hb5⟩
          go_wp2_with fail
          go_roundw
          case rel =>
            exact ⟨k + 1, x ++ 32 :: t, by omega, by go_num, by rw [T_cat], by have := HFL.out; rw [HF.out, ← ht.out] at this; rw [List.length_append]; omega, Lib.hid (by rw [HE.out, HF.out, ← ht.out, HX.out, List.append_assoc]), Lib.hid (HBR.out.trans (hb5.out.mono hsz))⟩
          case measure => simp [intOf]; omega
      · -- 83
        have hcell : wr.cell? ⟨bf, k, none⟩ = some (.int .u8 83) := hcell
        have hc1 : wr.cell? ⟨bx, 5, none⟩ = some (.string f5) := HAR.out.cell 5
        have HF : Hid (fTx ⟨f0, f1, f2, f3, f4, f5, f6, f7⟩ 83 = 32 :: quoteTx f5.data.toList) := Lib.hid rfl
        go_wp2_with fail
        refine (quoteP _ f5 HO.out.2.2.2.2.2.1).mono ?_
        rintro e w5 ⟨t, rfl, ht, htl, hb5⟩
        go_wp2_with fail
        go_roundw
        case rel =>
          exact ⟨k + 1, x ++ 32 :: t, by omega, by go_num, by rw [T_cat], by have := HFL.out; rw [HF.out, ← ht.out] at this; rw [List.length_append]; omega, Lib.hid (by rw [HE.out, HF.out, ← ht.out, HX.out, List.append_assoc]), Lib.hid (HBR.out.trans (hb5.out.mono hsz))⟩
        case measure => simp [intOf]; omega
      · -- 65
        have hcell : wr.cell? ⟨bf, k, none⟩ = some (.int .u8 65) := hcell
        have hc1 : wr.cell? ⟨bx, 1, none⟩ = some (I f1) := HAR.out.cell 1
        have HF : Hid (fTx ⟨f0, f1, f2, f3, f4, f5, f6, f7⟩ 65 = 32 :: vTx f1) := Lib.hid rfl
        go_wp2_with fail
        refine (value_any _ f1 HO.out.2.1 HVR.out).mono ?_
        rintro e w5 ⟨t, rfl, ht, htl, hb5⟩
        go_wp2_with fail
        go_roundw
        case rel =>
          exact ⟨k + 1, x ++ 32 :: t, by omega, by go_num, by rw [T_cat], by have := HFL.out; rw [HF.out, ← ht.out] at this; rw [List.length_append]; omega, Lib.hid (by rw [HE.out, HF.out, ← ht.out, HX.out, List.append_assoc]), Lib.hid (HBR.out.trans (hb5.out.mono hsz))⟩
        case measure => simp [intOf]; omega
      · -- 66
        have hcell : wr.cell? ⟨bf, k, none⟩ = some (.int .u8 66) := hcell
        have hc1 : wr.cell? ⟨bx, 2, none⟩ = some (I f2) := HAR.out.cell 2
        have HF : Hid (fTx ⟨f0, f1, f2, f3, f4, f5, f6, f7⟩ 66 = 32 :: vTx f2) := Lib.hid rfl
        go_wp2_with fail
        refine (value_any _ f2 HO.out.2.2.1 HVR.out).mono ?_
        rintro e w5 ⟨t, rfl, ht, htl, hb5⟩
        go_wp2_with fail
        go_roundw
        case rel =>
          exact ⟨k + 1, x ++ 32 :: t, by omega, by go_num, by rw [T_cat], by have := HFL.out; rw [HF.out, ← ht.out] at this; rw [List.length_append]; omega, Lib.hid (by rw [HE.out, HF.out, ← ht.out, HX.out, List.append_assoc]), Lib.hid (HBR.out.trans (hb5.out.mono hsz))⟩
        case measure => simp [intOf]; omega
      · -- 67
        have hcell : wr.cell? ⟨bf, k, none⟩ = some (.int .u8 67) := hcell
        have hc1 : wr.cell? ⟨bx, 3, none⟩ = some (I f3) := HAR.out.cell 3
        have HF : Hid (fTx ⟨f0, f1, f2, f3, f4, f5, f6, f7⟩ 67 = 32 :: vTx f3) := Lib.hid rfl
        go_wp2_with fail
        refine (value_any _ f3 HO.out.2.2.2.1 HVR.out).mono ?_
        rintro e w5 ⟨t, rfl, ht, htl, hb5⟩
        go_wp2_with fail
        go_roundw
        case rel =>
          exact ⟨k + 1, x ++ 32 :: t, by omega, by go_num, by rw [T_cat], by have := HFL.out; rw [HF.out, ← ht.out] at this; rw [List.length_append]; omega, Lib.hid (by rw [HE.out, HF.out, ← ht.out, HX.out, List.append_assoc]), Lib.hid (HBR.out.trans (hb5.out.mono hsz))⟩
        case measure => simp [intOf]; omega
      · -- 76
        have hcell : wr.cell? ⟨bf, k, none⟩ = some (.int .u8 76) := hcell
        have hc1 : wr.cell? ⟨bx, 6, none⟩ = some (.slice A f6.length c) := HAR.out.cell 6
        have HF : Hid (fTx ⟨f0, f1, f2, f3, f4, f5, f6, f7⟩ 76 = 32 :: (40 :: commas vTx f6 ++ [41])) := Lib.hid rfl
        go_wp2_with fail
        refine (brackets_any _ 39 (.inl rfl) vTx tells_value vTx_le A c f6 (Kd.C_below HR4.out HBR.out) hc HO.out.2.2.2.2.2.2 HVR.out).mono ?_
        rintro e w5 ⟨t, rfl, ht, htl, hb5⟩
        go_wp2_with fail
        go_roundw
        case rel =>
          exact ⟨k + 1, x ++ 32 :: t, by omega, by go_num, by rw [T_cat], by have := HFL.out; rw [HF.out, ← ht.out] at this; rw [List.length_append]; omega, Lib.hid (by rw [HE.out, HF.out, ← ht.out, HX.out, List.append_assoc]), Lib.hid (HBR.out.trans (hb5.out.mono hsz))⟩
        case measure => simp [intOf]; omega
      · -- 75
        have hcell : wr.cell? ⟨bf, k, none⟩ = some (.int .u8 75) := hcell
        have hc7 : wr.cell? ⟨bx, 7, none⟩ = some (.bool f7) := HAR.out.cell 7
        cases f7 with
        | true =>
          have HF : Hid (fTx ⟨f0, f1, f2, f3, f4, f5, f6, true⟩ 75 = [32, 115, 116, 97, 99, 107]) := Lib.hid rfl
          go_wp2_with fail
          go_roundw
          case rel =>
            exact ⟨k + 1, x ++ [32, 115, 116, 97, 99, 107], by omega, by go_num, by rw [T_end], by have := HFL.out; rw [HF.out] at this; rw [List.length_append]; omega, Lib.hid (by rw [HE.out, HF.out, HX.out, List.append_assoc]), HBR⟩
          case measure => simp [intOf]; omega
        | false =>
          have HF : Hid (fTx ⟨f0, f1, f2, f3, f4, f5, f6, false⟩ 75 = []) := Lib.hid rfl
          go_wp2_with fail
          go_roundw
          case rel =>
            exact ⟨k + 1, x, by omega, by go_num, rfl, by omega, Lib.hid (by rw [HE.out, HF.out, HX.out, List.append_nil]), HBR⟩
          case measure => simp [intOf]; omega
    · obtain rfl : k = fs.length := by omega
      go_wp2_with fail
      go_ret
      exact TX.mk (by rw [HX.out, List.take_length, ← HT.out, ← HFS.out]; rfl) HL.out (HBW.out.trans (HBR.out.mono HBW.out.size))
end Go.Proofs.YtacopdbldfgknaaDoor
