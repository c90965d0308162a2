import Derived.Test.YtakpikoffbgjfaaRK
namespace Go.Proofs.Ytakpikoffbgjfaa
open Go.RowKit Go.Maps

set_option maxHeartbeats 4000000 in
set_option maxRecDepth 100000 in
theorem asks6 (w : World) (F G : Nat → Prop) (p r : Nat) (M : HM) (R : RM) (a : AC) (h : TwoW w F G p r M R) (ho : Okay M R) (hk : a.kind = 6) :
    Calls Try.prog 33 #[P0 p, P0 r, ActV a] w (TwoRes w F G p r (setF M a.r a.i a.v).1 (rsetF R a.r a.i a.v).1 (.bool ((setF M a.r a.i a.v).2 == (rsetF R a.r a.i a.v).2))) := by
  obtain ⟨ak, ar, ai, an, av, ast⟩ := a
  simp only at hk ⊢
  subst hk
  have HH := Lib.hid h
  have HO := Lib.hid ho
  have HB := Lib.hid (below_alloc w (.cells #[I 6, I ar, I ai, I an, I av.n, .string av.s, I av.r, .bool ast] 45))
  have hA := Arr.new w 45 #[I 6, I ar, I ai, I an, I av.n, .string av.s, I av.r, .bool ast]
  clear h ho
  have hnF : Hid (¬ (F w.heap.size ∨ G w.heap.size)) := Lib.hid (fun e => by have := HH.out.lt _ e; omega)
  go_enter Try.func33, Try.ntmps33
  go_upto_region 7 with fail
  obtain ⟨bx, hbx⟩ : ∃ bx, w.heap.size = bx := ⟨_, rfl⟩
  obtain ⟨W, hW⟩ : ∃ W, w.alloc (.cells #[I 6, I ar, I ai, I an, I av.n, .string av.s, I av.r, .bool ast] 45) = W := ⟨_, rfl⟩
  rw [hW] at HB hA
  rw [hW]
  rw [hbx] at hnF hA
  rw [hbx]
  have HA := Lib.hid hA
  have HBX := Lib.hid hbx
  have HH1 : Hid (TwoW W.drew F G p r M R) := Lib.hid (HH.out.below ⟨HB.out.os, HB.out.tape, HB.out.output, HB.out.size, HB.out.block⟩)
  clear hW hA hbx
  refine wp_region_y (fun w' => w'.cell? ⟨bx, 1, none⟩ = some (I ar) ∧ w'.cell? ⟨bx, 2, none⟩ = some (I ai) ∧ w'.cell? ⟨bx, 4, none⟩ = some (I av.n) ∧ w'.cell? ⟨bx, 5, none⟩ = some (.string av.s) ∧ w'.cell? ⟨bx, 6, none⟩ = some (I av.r)) [] (by kernel_rfl) ?_
  have hS0 : W.drew.cell? ⟨bx, 1, none⟩ = some (I ar) ∧ W.drew.cell? ⟨bx, 2, none⟩ = some (I ai) ∧ W.drew.cell? ⟨bx, 4, none⟩ = some (I av.n) ∧ W.drew.cell? ⟨bx, 5, none⟩ = some (.string av.s) ∧ W.drew.cell? ⟨bx, 6, none⟩ = some (I av.r) := ⟨HA.out.cell 1, HA.out.cell 2, HA.out.cell 4, HA.out.cell 5, HA.out.cell 6⟩
  refine wpY_pure (i := 0) (v := ?_) rfl (by kernel_rfl) (fun _ _ _ h => h) (Or.inl ⟨rfl, ?_⟩) (fun _ => hS0) ?_
  rotate_left
  · intro W _
    go_simp
    try (with_reducible rfl)
  refine wpY_pure (i := 1) (v := ?_) rfl (by kernel_rfl) (fun _ _ _ h => h) (Or.inl ⟨rfl, ?_⟩) (fun _ => hS0) ?_
  rotate_left
  · intro W _
    go_simp
    try (with_reducible rfl)
  refine wpY_take (i := 2) (v := ?_) rfl (by kernel_rfl) (fun _ _ _ h => h) (Or.inl ⟨rfl, ?_⟩) hS0 ?_
  rotate_left
  · rintro W ⟨s0, s1, s2, s3, s4⟩
    go_simp
    try (with_reducible rfl)
  refine wpY_pure (i := 3) (v := ?_) rfl (by kernel_rfl) (fun _ _ _ h => h) (Or.inl ⟨rfl, ?_⟩) (fun _ => hS0) ?_
  rotate_left
  · intro W _
    go_simp
    try (with_reducible rfl)
  refine wpY_take (i := 4) (v := ?_) rfl (by kernel_rfl) (fun _ _ _ h => h) (Or.inl ⟨rfl, ?_⟩) hS0 ?_
  rotate_left
  · rintro W ⟨s0, s1, s2, s3, s4⟩
    go_simp
    try (with_reducible rfl)
  refine wpY_pure (i := 5) (v := ?_) rfl (by kernel_rfl) (fun _ _ _ h => h) (Or.inl ⟨rfl, ?_⟩) (fun _ => hS0) ?_
  rotate_left
  · intro W _
    go_simp
    try (with_reducible rfl)
  refine wpY_take (i := 6) (v := ?_) rfl (by kernel_rfl) (fun _ _ _ h => h) (Or.inl ⟨rfl, ?_⟩) hS0 ?_
  rotate_left
  · rintro W ⟨s0, s1, s2, s3, s4⟩
    go_simp
    try (with_reducible rfl)
  refine wpY_pure (i := 8) (v := ?_) rfl (by kernel_rfl) (fun _ _ _ h => h) (Or.inl ⟨rfl, ?_⟩) (fun _ => hS0) ?_
  rotate_left
  · intro W _
    go_simp
    try (with_reducible rfl)
  refine wpY_pure (i := 9) (v := ?_) rfl (by kernel_rfl) (fun _ _ _ h => h) (Or.inl ⟨rfl, ?_⟩) (fun _ => hS0) ?_
  rotate_left
  · intro W _
    go_simp
    try (with_reducible rfl)
  refine wpY_take (i := 10) (v := ?_) rfl (by kernel_rfl) (fun _ _ _ h => h) (Or.inl ⟨rfl, ?_⟩) hS0 ?_
  rotate_left
  · rintro W ⟨s0, s1, s2, s3, s4⟩
    go_simp
    try (with_reducible rfl)
  refine wpY_pure (i := 11) (v := ?_) rfl (by kernel_rfl) (fun _ _ _ h => h) (Or.inl ⟨rfl, ?_⟩) (fun _ => hS0) ?_
  rotate_left
  · intro W _
    go_simp
    try (with_reducible rfl)
  refine wpY_take (i := 12) (v := ?_) rfl (by kernel_rfl) (fun _ _ _ h => h) (Or.inl ⟨rfl, ?_⟩) hS0 ?_
  rotate_left
  · rintro W ⟨s0, s1, s2, s3, s4⟩
    go_simp
    try (with_reducible rfl)
  refine wpY_pure (i := 13) (v := ?_) rfl (by kernel_rfl) (fun _ _ _ h => h) (Or.inl ⟨rfl, ?_⟩) (fun _ => hS0) ?_
  rotate_left
  · intro W _
    go_simp
    try (with_reducible rfl)
  refine wpY_take (i := 14) (v := ?_) rfl (by kernel_rfl) (fun _ _ _ h => h) (Or.inl ⟨rfl, ?_⟩) hS0 ?_
  rotate_left
  · rintro W ⟨s0, s1, s2, s3, s4⟩
    go_simp
    try (with_reducible rfl)
  clear hS0
  refine wpY_one (i := 7) rfl (by kernel_rfl) (fun K hK => ?_)
  go_simp
  obtain ⟨tv, fv, qs, hm⟩ := HH1.out.h
  refine (set_any _ F p M tv fv qs ar ai av hm HO.out.sorted HO.out.calm.fl HO.out.calm.th).mono ?_
  obtain ⟨X, hX⟩ : ∃ X, (setF M ar ai av) = X := ⟨_, rfl⟩
  rw [hX]
  have HX := Lib.hid hX
  clear hX
  rintro e w2 ⟨F2, tv2, fv2, qs2, rfl, hm2, hc2, hn2⟩
  have HT2 := Lib.hid (HH1.out.heap hm2 hc2 hn2)
  have HA2 := Lib.hid (HA.out.drew.block (hc2.block bx HA.out.lt (fun e => hnF.out (.inl e))))
  have HN2 := Lib.hid hn2
  have HC2 := Lib.hid hc2
  have HL2 := Lib.hid (HA2.out.lt)
  have hS1 : w2.cell? ⟨bx, 1, none⟩ = some (I ar) ∧ w2.cell? ⟨bx, 2, none⟩ = some (I ai) ∧ w2.cell? ⟨bx, 4, none⟩ = some (I av.n) ∧ w2.cell? ⟨bx, 5, none⟩ = some (.string av.s) ∧ w2.cell? ⟨bx, 6, none⟩ = some (I av.r) := ⟨HA2.out.cell 1, HA2.out.cell 2, HA2.out.cell 4, HA2.out.cell 5, HA2.out.cell 6⟩
  clear hm hm2 hc2 hn2
  go_wp2_with fail
  refine hK _ _ (fun _ => hS1) ?_
  clear hK K
  refine wpY_one (i := 15) rfl (by kernel_rfl) (fun K hK => ?_)
  go_simp
  obtain ⟨lv, rqs, hr⟩ := HT2.out.r
  refine (rset_any _ G r R lv rqs ar ai av hr HO.out.rr.ll).mono ?_
  obtain ⟨Y, hY⟩ : ∃ Y, (rsetF R ar ai av) = Y := ⟨_, rfl⟩
  rw [hY]
  have HY := Lib.hid hY
  clear hY
  rintro e w3 ⟨G3, lv3, rqs3, rfl, hr3, hc3, hn3⟩
  have HT3 := Lib.hid (HT2.out.ref hr3 hc3 hn3)
  have HA3 := Lib.hid (HA2.out.block (hc3.block bx HL2.out (fun e => hnF.out (.inr e))))
  have HN3 := Lib.hid hn3
  have HC3 := Lib.hid hc3
  have hS2 : w3.cell? ⟨bx, 1, none⟩ = some (I ar) ∧ w3.cell? ⟨bx, 2, none⟩ = some (I ai) ∧ w3.cell? ⟨bx, 4, none⟩ = some (I av.n) ∧ w3.cell? ⟨bx, 5, none⟩ = some (.string av.s) ∧ w3.cell? ⟨bx, 6, none⟩ = some (I av.r) := ⟨HA3.out.cell 1, HA3.out.cell 2, HA3.out.cell 4, HA3.out.cell 5, HA3.out.cell 6⟩
  clear hr hr3 hc3 hn3 hS1
  go_wp2_with fail
  refine hK _ _ (fun _ => hS2) ?_
  clear hK K
  refine wpY_pure (i := 16) (v := ?_) rfl (by kernel_rfl) (fun _ _ _ h => h) (Or.inl ⟨rfl, ?_⟩) (fun _ => hS2) ?_
  rotate_left
  · intro W _
    go_simp
    try (with_reducible rfl)
  refine wpY_pure (i := 17) (v := ?_) rfl (by kernel_rfl) (fun _ _ _ h => h) (Or.inl ⟨rfl, ?_⟩) (fun _ => hS2) ?_
  rotate_left
  · intro W _
    go_simp
    try (with_reducible rfl)
  refine wpY_done (by kernel_rfl) ?_ _
  clear hS2
  go_wp2_with fail
  go_ret
  rw [HX.out, HY.out]
  have hs1 := HB.out.size
  have hs2 : W.heap.size ≤ w2.heap.size := HC2.out.size
  have hcc : Chg (fun k => F k ∨ G k) W.drew w3 := (HC2.out.trans HC3.out (fun _ h => .inl h) (fun _ h _ => .inr h))
  have hcw : Chg (fun k => F k ∨ G k) w w3 := Chg.trans (F := Nof) ⟨HB.out.os, HB.out.tape, HB.out.output, HB.out.size, fun k hk _ => HB.out.block k hk⟩ ⟨hcc.os, hcc.tape, hcc.output, hcc.size, hcc.block⟩ (fun _ h => h.elim) (fun _ h _ => h)
  refine ⟨F2, G3, rfl, HT3.out, hcw, fun k hk => ?_, fun k hk => ?_⟩
  · rcases HN2.out k hk with e | e
    · exact .inl e
    · have e2 : W.heap.size ≤ k := e
      exact .inr (by omega)
  · rcases HN3.out k hk with e | e
    · exact .inl e
    · exact .inr (by omega)
set_option maxHeartbeats 4000000 in
set_option maxRecDepth 100000 in
theorem asks8 (w : World) (F G : Nat → Prop) (p r : Nat) (M : HM) (R : RM) (a : AC) (h : TwoW w F G p r M R) (ho : Okay M R) (hi : (Lit.int .i64 a.i).wf = true) (hn : (Lit.int .i64 a.n).wf = true) (hk : a.kind = 8) :
    Calls Try.prog 33 #[P0 p, P0 r, ActV a] w (TwoRes w F G p r (putF M a.r a.i a.n).1 (rputF R a.r a.i a.n).1 (.bool ((putF M a.r a.i a.n).2 == (rputF R a.r a.i a.n).2))) := by
  obtain ⟨ak, ar, ai, an, av, ast⟩ := a
  simp only at hk hi hn ⊢
  have HI := Lib.hid hi
  have HN := Lib.hid hn
  clear hi hn
  subst hk
  have HH := Lib.hid h
  have HO := Lib.hid ho
  have HB := Lib.hid (below_alloc w (.cells #[I 8, I ar, I ai, I an, I av.n, .string av.s, I av.r, .bool ast] 45))
  have hA := Arr.new w 45 #[I 8, I ar, I ai, I an, I av.n, .string av.s, I av.r, .bool ast]
  clear h ho
  have hnF : Hid (¬ (F w.heap.size ∨ G w.heap.size)) := Lib.hid (fun e => by have := HH.out.lt _ e; omega)
  go_enter Try.func33, Try.ntmps33
  go_upto_region 13 with fail
  obtain ⟨bx, hbx⟩ : ∃ bx, w.heap.size = bx := ⟨_, rfl⟩
  obtain ⟨W, hW⟩ : ∃ W, w.alloc (.cells #[I 8, I ar, I ai, I an, I av.n, .string av.s, I av.r, .bool ast] 45) = W := ⟨_, rfl⟩
  rw [hW] at HB hA
  rw [hW]
  rw [hbx] at hnF hA
  rw [hbx]
  have HA := Lib.hid hA
  have HBX := Lib.hid hbx
  have HH1 : Hid (TwoW W.drew F G p r M R) := Lib.hid (HH.out.below ⟨HB.out.os, HB.out.tape, HB.out.output, HB.out.size, HB.out.block⟩)
  clear hW hA hbx
  refine wp_region_y (fun w' => w'.cell? ⟨bx, 1, none⟩ = some (I ar) ∧ w'.cell? ⟨bx, 2, none⟩ = some (I ai) ∧ w'.cell? ⟨bx, 3, none⟩ = some (I an)) [] (by kernel_rfl) ?_
  have hS0 : W.drew.cell? ⟨bx, 1, none⟩ = some (I ar) ∧ W.drew.cell? ⟨bx, 2, none⟩ = some (I ai) ∧ W.drew.cell? ⟨bx, 3, none⟩ = some (I an) := ⟨HA.out.cell 1, HA.out.cell 2, HA.out.cell 3⟩
  refine wpY_pure (i := 0) (v := ?_) rfl (by kernel_rfl) (fun _ _ _ h => h) (Or.inl ⟨rfl, ?_⟩) (fun _ => hS0) ?_
  rotate_left
  · intro W _
    go_simp
    try (with_reducible rfl)
  refine wpY_pure (i := 1) (v := ?_) rfl (by kernel_rfl) (fun _ _ _ h => h) (Or.inl ⟨rfl, ?_⟩) (fun _ => hS0) ?_
  rotate_left
  · intro W _
    go_simp
    try (with_reducible rfl)
  refine wpY_take (i := 2) (v := ?_) rfl (by kernel_rfl) (fun _ _ _ h => h) (Or.inl ⟨rfl, ?_⟩) hS0 ?_
  rotate_left
  · rintro W ⟨s0, s1, s2⟩
    go_simp
    try (with_reducible rfl)
  refine wpY_pure (i := 3) (v := ?_) rfl (by kernel_rfl) (fun _ _ _ h => h) (Or.inl ⟨rfl, ?_⟩) (fun _ => hS0) ?_
  rotate_left
  · intro W _
    go_simp
    try (with_reducible rfl)
  refine wpY_take (i := 4) (v := ?_) rfl (by kernel_rfl) (fun _ _ _ h => h) (Or.inl ⟨rfl, ?_⟩) hS0 ?_
  rotate_left
  · rintro W ⟨s0, s1, s2⟩
    go_simp
    try (with_reducible rfl)
  refine wpY_pure (i := 5) (v := ?_) rfl (by kernel_rfl) (fun _ _ _ h => h) (Or.inl ⟨rfl, ?_⟩) (fun _ => hS0) ?_
  rotate_left
  · intro W _
    go_simp
    try (with_reducible rfl)
  refine wpY_take (i := 6) (v := ?_) rfl (by kernel_rfl) (fun _ _ _ h => h) (Or.inl ⟨rfl, ?_⟩) hS0 ?_
  rotate_left
  · rintro W ⟨s0, s1, s2⟩
    go_simp
    try (with_reducible rfl)
  refine wpY_pure (i := 8) (v := ?_) rfl (by kernel_rfl) (fun _ _ _ h => h) (Or.inl ⟨rfl, ?_⟩) (fun _ => hS0) ?_
  rotate_left
  · intro W _
    go_simp
    try (with_reducible rfl)
  refine wpY_pure (i := 9) (v := ?_) rfl (by kernel_rfl) (fun _ _ _ h => h) (Or.inl ⟨rfl, ?_⟩) (fun _ => hS0) ?_
  rotate_left
  · intro W _
    go_simp
    try (with_reducible rfl)
  refine wpY_take (i := 10) (v := ?_) rfl (by kernel_rfl) (fun _ _ _ h => h) (Or.inl ⟨rfl, ?_⟩) hS0 ?_
  rotate_left
  · rintro W ⟨s0, s1, s2⟩
    go_simp
    try (with_reducible rfl)
  refine wpY_pure (i := 11) (v := ?_) rfl (by kernel_rfl) (fun _ _ _ h => h) (Or.inl ⟨rfl, ?_⟩) (fun _ => hS0) ?_
  rotate_left
  · intro W _
    go_simp
    try (with_reducible rfl)
  refine wpY_take (i := 12) (v := ?_) rfl (by kernel_rfl) (fun _ _ _ h => h) (Or.inl ⟨rfl, ?_⟩) hS0 ?_
  rotate_left
  · rintro W ⟨s0, s1, s2⟩
    go_simp
    try (with_reducible rfl)
  refine wpY_pure (i := 13) (v := ?_) rfl (by kernel_rfl) (fun _ _ _ h => h) (Or.inl ⟨rfl, ?_⟩) (fun _ => hS0) ?_
  rotate_left
  · intro W _
    go_simp
    try (with_reducible rfl)
  refine wpY_take (i := 14) (v := ?_) rfl (by kernel_rfl) (fun _ _ _ h => h) (Or.inl ⟨rfl, ?_⟩) hS0 ?_
  rotate_left
  · rintro W ⟨s0, s1, s2⟩
    go_simp
    try (with_reducible rfl)
  clear hS0
  refine wpY_one (i := 7) rfl (by kernel_rfl) (fun K hK => ?_)
  go_simp
  obtain ⟨tv, fv, qs, hm⟩ := HH1.out.h
  refine (put_any _ F p M tv fv qs ar ai an hm HO.out.sorted HO.out.calm.fl HO.out.calm.th HO.out.calm.room HO.out.mkeys HI.out HN.out).mono ?_
  obtain ⟨X, hX⟩ : ∃ X, (putF M ar ai an) = X := ⟨_, rfl⟩
  rw [hX]
  have HX := Lib.hid hX
  clear hX
  rintro e w2 ⟨F2, tv2, fv2, qs2, rfl, hm2, hc2, hn2⟩
  have HT2 := Lib.hid (HH1.out.heap hm2 hc2 hn2)
  have HA2 := Lib.hid (HA.out.drew.block (hc2.block bx HA.out.lt (fun e => hnF.out (.inl e))))
  have HN2 := Lib.hid hn2
  have HC2 := Lib.hid hc2
  have HL2 := Lib.hid (HA2.out.lt)
  have hS1 : w2.cell? ⟨bx, 1, none⟩ = some (I ar) ∧ w2.cell? ⟨bx, 2, none⟩ = some (I ai) ∧ w2.cell? ⟨bx, 3, none⟩ = some (I an) := ⟨HA2.out.cell 1, HA2.out.cell 2, HA2.out.cell 3⟩
  clear hm hm2 hc2 hn2
  go_wp2_with fail
  refine hK _ _ (fun _ => hS1) ?_
  clear hK K
  refine wpY_one (i := 15) rfl (by kernel_rfl) (fun K hK => ?_)
  go_simp
  obtain ⟨lv, rqs, hr⟩ := HT2.out.r
  refine (rput_any _ G r R lv rqs ar ai an hr HO.out.rr (fun t ht => (HO.out.rkeys t ht).2)).mono ?_
  obtain ⟨Y, hY⟩ : ∃ Y, (rputF R ar ai an) = Y := ⟨_, rfl⟩
  rw [hY]
  have HY := Lib.hid hY
  clear hY
  rintro e w3 ⟨G3, lv3, rqs3, rfl, hr3, hc3, hn3⟩
  have HT3 := Lib.hid (HT2.out.ref hr3 hc3 hn3)
  have HA3 := Lib.hid (HA2.out.block (hc3.block bx HL2.out (fun e => hnF.out (.inr e))))
  have HN3 := Lib.hid hn3
  have HC3 := Lib.hid hc3
  have hS2 : w3.cell? ⟨bx, 1, none⟩ = some (I ar) ∧ w3.cell? ⟨bx, 2, none⟩ = some (I ai) ∧ w3.cell? ⟨bx, 3, none⟩ = some (I an) := ⟨HA3.out.cell 1, HA3.out.cell 2, HA3.out.cell 3⟩
  clear hr hr3 hc3 hn3 hS1
  go_wp2_with fail
  refine hK _ _ (fun _ => hS2) ?_
  clear hK K
  refine wpY_pure (i := 16) (v := ?_) rfl (by kernel_rfl) (fun _ _ _ h => h) (Or.inl ⟨rfl, ?_⟩) (fun _ => hS2) ?_
  rotate_left
  · intro W _
    go_simp
    try (with_reducible rfl)
  refine wpY_pure (i := 17) (v := ?_) rfl (by kernel_rfl) (fun _ _ _ h => h) (Or.inl ⟨rfl, ?_⟩) (fun _ => hS2) ?_
  rotate_left
  · intro W _
    go_simp
    try (with_reducible rfl)
  refine wpY_done (by kernel_rfl) ?_ _
  clear hS2
  go_wp2_with fail
  go_ret
  rw [HX.out, HY.out]
  have hs1 := HB.out.size
  have hs2 : W.heap.size ≤ w2.heap.size := HC2.out.size
  have hcc : Chg (fun k => F k ∨ G k) W.drew w3 := (HC2.out.trans HC3.out (fun _ h => .inl h) (fun _ h _ => .inr h))
  have hcw : Chg (fun k => F k ∨ G k) w w3 := Chg.trans (F := Nof) ⟨HB.out.os, HB.out.tape, HB.out.output, HB.out.size, fun k hk _ => HB.out.block k hk⟩ ⟨hcc.os, hcc.tape, hcc.output, hcc.size, hcc.block⟩ (fun _ h => h.elim) (fun _ h _ => h)
  refine ⟨F2, G3, rfl, HT3.out, hcw, fun k hk => ?_, fun k hk => ?_⟩
  · rcases HN2.out k hk with e | e
    · exact .inl e
    · have e2 : W.heap.size ≤ k := e
      exact .inr (by omega)
  · rcases HN3.out k hk with e | e
    · exact .inl e
    · exact .inr (by omega)
end Go.Proofs.Ytakpikoffbgjfaa
