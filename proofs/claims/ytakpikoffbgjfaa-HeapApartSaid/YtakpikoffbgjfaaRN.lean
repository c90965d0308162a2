import Derived.Test.YtakpikoffbgjfaaRM
namespace Go.Proofs.Ytakpikoffbgjfaa
open Go.RowKit Go.Maps

set_option maxHeartbeats 8000000 in
set_option maxRecDepth 100000 in
theorem does2 (w : World) (F G : Nat → Prop) (p r : Nat) (M : HM) (R : RM) (a : AC) (h : TwoW w F G p r M R) (ho : Okay M R) (hk : a.kind = 2) :
    Calls Try.prog 20 #[P0 p, P0 r, ActV a] w (TwoRes w F G p r (madeF M (hobjT (objL a)) a.stack).1 (makeR R (objT (objL a)) a.stack).1 (.bool (((madeF M (hobjT (objL a)) a.stack).2.1 == (makeR R (objT (objL a)) a.stack).2.1) && ((madeF M (hobjT (objL a)) a.stack).2.2 == (makeR R (objT (objL a)) a.stack).2.2)))) := by
  obtain ⟨ak, ar, ai, an, av, ast⟩ := a
  simp only at hk ⊢
  subst hk
  have HH := Lib.hid h
  have HO := Lib.hid ho
  have hA := Arr.new w 45 #[I 2, I ar, I ai, I an, I av.n, .string av.s, I av.r, .bool ast]
  have HB := Lib.hid (below_alloc w (.cells #[I 2, I ar, I ai, I an, I av.n, .string av.s, I av.r, .bool ast] 45))
  have hnF : Hid (¬ F w.heap.size) := Lib.hid (fun e => by have := HH.out.lt _ (.inl e); omega)
  clear h ho
  go_enter Try.func20, Try.ntmps20
  go_upto_region 7 with fail
  obtain ⟨bx, hbx⟩ : ∃ bx, w.heap.size = bx := ⟨_, rfl⟩
  obtain ⟨W, hW⟩ : ∃ W, w.alloc (.cells #[I 2, I ar, I ai, I an, I av.n, .string av.s, I av.r, .bool ast] 45) = W := ⟨_, rfl⟩
  rw [hW] at HB hA
  rw [hW]
  rw [hbx] at hnF hA
  rw [hbx]
  have HA := Lib.hid hA
  have HBX := Lib.hid hbx
  have HO0 := Lib.hid (start30 W)
  have hbw : bx < W.heap.size := hA.lt
  have HLW : Hid (∀ k, F k ∨ G k → k < W.heap.size) := Lib.hid (fun k hk => Nat.lt_of_lt_of_le (HH.out.lt k hk) HB.out.size)
  clear hW hA hbx
  obtain ⟨c, hc⟩ : ∃ c : Nat, (Int.tmod an 9).toNat = c := ⟨_, rfl⟩
  have hc9 : c ≤ 9 := by have := Int.tmod_lt_of_pos an (show (0 : Int) < 9 by omega); omega
  have HLL : Hid (objL ⟨2, ar, ai, an, av, ast⟩ = List.replicate c av) := Lib.hid (by show List.replicate (Int.tmod an 9).toNat av = _; rw [hc])
  go_wp2_with fail
  go_loopw [7, 8] (fun v i wr => ∃ k : Nat, k ≤ c ∧ i = .int .i64 k ∧ wr.ownsRow W.heap.size 30 3 v k (vvs (List.replicate k av)) ∧ Below W.heap.size W wr) (fun _ i _ => c - (intOf i).toNat)
  case atStart => exact ⟨0, Nat.zero_le _, rfl, HO0.out, below_alloc _ _⟩
  case round =>
    obtain ⟨k, hk, rfl, hown, hb⟩ := hrel
    have hA1 := HA.out.below hb
    have x3 : wr.cell? ⟨bx, 3, none⟩ = some (I an) := hA1.cell 3
    have x4 : wr.cell? ⟨bx, 4, none⟩ = some (I av.n) := hA1.cell 4
    have x5 : wr.cell? ⟨bx, 5, none⟩ = some (.string av.s) := hA1.cell 5
    have x6 : wr.cell? ⟨bx, 6, none⟩ = some (I av.r) := hA1.cell 6
    have HOW := Lib.hid hown
    have HB1 := Lib.hid hb
    have hbs := hb.size
    clear hown hb hA1
    by_cases hlt : k < c
    · have hlt1 : (k : Int) < Int.tmod an 9 := by omega
      have hd : decide ((k : Int) < Int.tmod an 9) = true := de_t hlt1
      go_wp2_with (at_builtin; refine wpl_append1 rfl _ _ _ rfl E53 rfl (HOW.out.alloc _) (u := .slice (some ⟨wr.heap.size, 0, none⟩) 1 1) (m := 1) (news := av.cs) rfl (Rd.fresh wr #[I av.n, .string av.s, I av.r] 30 1 1 (by omega) (by omega)) rfl (by simp [VV.cs, Value.oneCell']) (by omega) (by omega) (by simp only [maxLen]; omega) (by simp; omega) ?_; intro g' cap' w2 hap)
      go_roundw
      case rel => exact ⟨k + 1, by omega, by go_num, by rw [List.replicate_succ', vvs_append]; simpa [vvs] using hap.own, hap.below (HB1.out.alloc (by omega) _) (HOW.out.alloc _) (Nat.le_refl _) (by simp; omega)⟩
      case measure => simp [intOf]; omega
    · have hlt1 : ¬ (k : Int) < Int.tmod an 9 := by omega
      have hd : decide ((k : Int) < Int.tmod an 9) = false := de_f hlt1
      obtain rfl : k = c := by omega
      have x7 : wr.cell? ⟨bx, 7, none⟩ = some (.bool ast) := (HA.out.below HB1.out).cell 7
      obtain ⟨A7, c7, rfl, hc71, hc72⟩ := (Rd.of_own HOW.out).form
      have HV := Lib.hid (by rw [List.length_replicate]; exact Rd.of_own HOW.out : Rd wr (.slice A7 k c7) (List.replicate k av).length (vvs (List.replicate k av)))
      have HT1 := Lib.hid ((HH.out.below HB.out).below HB1.out)
      have hll : (List.replicate k av).length = k := List.length_replicate
      clear hlt x4 x5 x6 HO0
      go_upto_region 12 with fail
      clear x3
      refine wp_region_y (fun w' => w'.cell? ⟨bx, 7, none⟩ = some (.bool ast)) [] (by kernel_rfl) ?_
      have hS0 : wr.drew.cell? ⟨bx, 7, none⟩ = some (.bool ast) := x7
      refine wpY_pure (i := 0) (v := ?_) rfl (by kernel_rfl) (fun _ _ _ h => h) (Or.inl ⟨rfl, ?_⟩) (fun _ => hS0) ?_
      rotate_left
      · intro W _
        go_simp
        try (with_reducible rfl)
      refine wpY_pure (i := 2) (v := ?_) rfl (by kernel_rfl) (fun _ _ _ h => h) (Or.inl ⟨rfl, ?_⟩) (fun _ => hS0) ?_
      rotate_left
      · intro W _
        go_simp
        try (with_reducible rfl)
      refine wpY_pure (i := 4) (v := ?_) rfl (by kernel_rfl) (fun _ _ _ h => h) (Or.inl ⟨rfl, ?_⟩) (fun _ => hS0) ?_
      rotate_left
      · intro W _
        go_simp
        try (with_reducible rfl)
      refine wpY_take (i := 5) (v := ?_) rfl (by kernel_rfl) (fun _ _ _ h => h) (Or.inl ⟨rfl, ?_⟩) hS0 ?_
      rotate_left
      · intro W s0
        go_simp
        try (with_reducible rfl)
      refine wpY_one (i := 1) rfl (by kernel_rfl) (fun K hK => ?_)
      go_simp
      have hSa : (wr.alloc (.cells #[] 30)).drew.cell? ⟨bx, 7, none⟩ = some (.bool ast) := cell_later _ x7
      refine hK _ _ (fun _ => hSa) ?_
      clear hK K hS0
      have HOB : Hid ((wr.alloc (.cells #[] 30)).drew.ownsRow wr.heap.size 30 3 (.slice (some ⟨wr.heap.size, 0, none⟩) 0 0) 0 []) := Lib.hid (start30 wr)
      refine wpY_one (i := 3) rfl (by kernel_rfl) (fun K hK => ?_)
      refine step_append_rd (by rfl) _ _ _ (by rfl) E53 (by rfl) HOB.out (by rfl) ((HV.out.alloc (.cells #[] 30)).drew) (vvs_length _) (vvs_one _) (by rw [hll]; omega) (by rw [hll]; simp only [maxLen]; omega) (by simp) ?_
      intro c1 w1 hap
      rw [Nat.zero_add, List.nil_append] at hap
      have hBa : Below wr.heap.size wr w1 := hap.below ((below_alloc wr (.cells #[] 30)).drew) HOB.out (Nat.le_refl _) (by simp)
      have hA1 := (HA.out.below HB1.out).below hBa
      have hSb : w1.cell? ⟨bx, 7, none⟩ = some (.bool ast) := hA1.cell 7
      refine hK _ _ (fun _ => hSb) ?_
      clear hK K hSa
      have HBA := Lib.hid hBa
      have HA1 := Lib.hid hA1
      have HC1 := Lib.hid hap.own
      have HT2 := Lib.hid (HT1.out.below hBa)
      have HV2 := Lib.hid (own_kept HOW.out (fun b hb => hBa.block b (HOW.out.lt b hb).2))
      clear hap hBa hA1
      refine wpY_one (i := 6) rfl (by kernel_rfl) (fun K hK => ?_)
      go_simp
      obtain ⟨tv, fv, qs, hm⟩ := HT2.out.h
      refine (object_any _ F p M tv fv qs c1 (List.replicate k av) ast hm (Rd.of_own HC1.out) HO.out.calm (by rw [hll]; omega)).mono ?_
      obtain ⟨X, hX⟩ : ∃ X, madeF M (hobjT (List.replicate k av)) ast = X := ⟨_, rfl⟩
      rw [hX]
      have HX := Lib.hid hX
      clear hX
      rintro e w2 ⟨F2, tv2, fv2, qs2, rfl, hm2, hc2, hn2⟩
      have HT3 := Lib.hid (HT2.out.heap hm2 hc2 hn2)
      have HA2 := Lib.hid (box_kept HA1.out hc2 hnF.out)
      have HN2 := Lib.hid hn2
      have HC2 := Lib.hid hc2
      have HV3 := Lib.hid (own_kept HV2.out (fun b hb => hc2.block b (HV2.out.lt b hb).2 (fun hF => by have h1 := HLW.out b (.inl hF); have h2 := (HV2.out.lt b hb).1; omega)))
      have hS1 : w2.cell? ⟨bx, 7, none⟩ = some (.bool ast) := HA2.out.cell 7
      clear hm hm2 hc2 hn2 hSb
      go_wp2_with fail
      refine hK _ _ (fun _ => hS1) ?_
      clear hK K
      refine wpY_pure (i := 7) (v := ?_) rfl (by kernel_rfl) (fun _ _ _ h => h) (Or.inl ⟨rfl, ?_⟩) (fun _ => hS1) ?_
      rotate_left
      · intro W _
        go_simp
        try (with_reducible rfl)
      refine wpY_pure (i := 8) (v := ?_) rfl (by kernel_rfl) (fun _ _ _ h => h) (Or.inl ⟨rfl, ?_⟩) (fun _ => hS1) ?_
      rotate_left
      · intro W _
        go_simp
        try (with_reducible rfl)
      refine wpY_pure (i := 9) (v := ?_) rfl (by kernel_rfl) (fun _ _ _ h => h) (Or.inl ⟨rfl, ?_⟩) (fun _ => hS1) ?_
      rotate_left
      · intro W _
        go_simp
        try (with_reducible rfl)
      refine wpY_pure (i := 10) (v := ?_) rfl (by kernel_rfl) (fun _ _ _ h => h) (Or.inl ⟨rfl, ?_⟩) (fun _ => hS1) ?_
      rotate_left
      · intro W _
        go_simp
        try (with_reducible rfl)
      refine wpY_pure (i := 11) (v := ?_) rfl (by kernel_rfl) (fun _ _ _ h => h) (Or.inl ⟨rfl, ?_⟩) (fun _ => hS1) ?_
      rotate_left
      · intro W _
        go_simp
        try (with_reducible rfl)
      refine wpY_done (by kernel_rfl) ?_ _
      have HV4 := Lib.hid (by rw [List.length_replicate]; exact Rd.of_own HV3.out : Rd w2 (.slice A7 k c7) (List.replicate k av).length (vvs (List.replicate k av)))
      go_wp2_with fail
      obtain ⟨lv, rqs, hr⟩ := HT3.out.r
      refine (robject_any _ G r R lv rqs (.slice A7 k c7) (List.replicate k av) ast hr HV4.out HO.out.rr (by rw [hll]; omega)).mono ?_
      obtain ⟨Y, hY⟩ : ∃ Y, makeR R (objT (List.replicate k av)) ast = Y := ⟨_, rfl⟩
      rw [hY]
      have HY := Lib.hid hY
      clear hY
      rintro e w3 ⟨G3, lv3, rqs3, rfl, hr3, hc3, hn3⟩
      have HT4 := Lib.hid (HT3.out.ref hr3 hc3 hn3)
      have HN3 := Lib.hid hn3
      have HC3 := Lib.hid hc3
      obtain ⟨X1, xa, xb⟩ := X
      obtain ⟨Y1, ya, yb⟩ := Y
      simp only at HX HY HT4 ⊢
      clear hr hr3 hc3 hn3 hS1 x7
      have hbw1 : Below w.heap.size w w1 := below_step (below_step HB.out HB1.out HB.out.size) HBA.out (by have := HB.out.size; have := HB1.out.size; omega)
      have hfin : TwoRes w F G p r X1 Y1 (.bool ((xa == ya) && (xb == yb))) (.returned (.bool ((xa == ya) && (xb == yb)))) w3 := two_out hbw1 HC2.out (Below.refl _ _) HC3.out HN2.out HN3.out HT4.out
      have HFIN := Lib.hid hfin
      clear hfin hbw1
      by_cases h1 : xa = ya
      · subst h1
        go_wp2_with fail
        go_ret
        rw [HLL.out, HX.out, HY.out]
        simpa using HFIN.out
      · have d1 : (xa == ya) = false := by simpa using h1
        have H1 := Lib.hid h1
        clear h1
        go_wp2_with fail
        go_ret
        rw [HLL.out, HX.out, HY.out]
        simpa [d1] using HFIN.out
end Go.Proofs.Ytakpikoffbgjfaa
