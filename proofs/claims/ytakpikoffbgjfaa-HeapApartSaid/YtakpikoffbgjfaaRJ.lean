import Derived.Test.YtakpikoffbgjfaaRI
namespace Go.Proofs.Ytakpikoffbgjfaa
open Go.RowKit Go.Maps

theorem cell_new1 (w : World) (u : Value) (t : TypeId) : (w.alloc (.cells #[u] t)).cell? ⟨w.heap.size, 0, none⟩ = some u := by
  rw [World.cell?_alloc_at _ _ _ _ rfl]; rfl
theorem RmW.ku {w : World} {F : Nat → Prop} {p j g nl cap : Nat} {M : RM} {qs : List RQ} {t : RT} {q : RQ} (h : RmW w F p M (.slice (some ⟨g, 0, none⟩) nl cap) qs) (ht : M.l[j]? = some t) (hq : qs[j]? = some q) :
    w.cell? ⟨g, j * 6 + 2, none⟩ = some q.k ∧ w.cell? ⟨g, j * 6 + 3, none⟩ = some q.u ∧ ∀ i, w.frozen? ⟨g, i, none⟩ = false := by
  obtain ⟨g', cap', q', etv, _, _, _, hq', _, _, _, k2, k3, _, _, hfz⟩ := h.thing ht
  cases etv
  rw [hq] at hq'
  cases hq'
  exact ⟨k2, k3, hfz⟩
def rputT (t : RT) (key n : Int) : RT := if 0 ≤ findR t.keys key then { t with under := t.under.set (findR t.keys key).toNat n } else { t with keys := t.keys ++ [key], under := t.under ++ [n] }
def rputF (M : RM) (r key n : Int) : RM × Int :=
  if whyR M r 1 ≠ 0 then (M, whyR M r 1) else match M.l[(r - 1).toNat]? with
  | none => (M, 6)
  | some t => if 0 ≤ findR t.keys key ∨ t.frame ≠ 0 then ({ M with l := M.l.set (r - 1).toNat (rputT t key n) }, 0)
    else if M.limit - M.used < 16 then (M, 4) else ({ M with used := M.used + 16, l := M.l.set (r - 1).toNat (rputT t key n) }, 0)
set_option maxHeartbeats 16000000 in
set_option maxRecDepth 100000 in
theorem rput_any (w : World) (F : Nat → Prop) (p : Nat) (M : RM) (lv : Value) (qs : List RQ) (r key n : Int) (h : RmW w F p M lv qs) (hr : RRoom M) (hvl : ∀ t ∈ M.l, t.keys.length ≤ 1000000000) :
    Calls Try.prog 40 #[P0 p, I r, I key, I n] w (RmRes w F p (rputF M r key n).1 (I (rputF M r key n).2)) := by
  have HWY := Lib.hid (rwhy_any w F p M lv qs r 1 h)
  have HH := Lib.hid h
  obtain ⟨hu0, hul, hli, hm0, hm1, hf0, hf1, hll⟩ := hr
  clear h
  obtain ⟨y, hy⟩ : ∃ y, whyR M r 1 = y := ⟨_, rfl⟩
  by_cases h0 : y = 0
  · subst h0
    have HY := Lib.hid hy
    obtain ⟨j, t, hr, htt, htk, htg⟩ := whyR_thing hy
    subst hr
    have HTT := Lib.hid htt
    have HPF : Hid (rputF M ((j : Int) + 1) key n = if 0 ≤ findR t.keys key ∨ t.frame ≠ 0 then ({ M with l := M.l.set j (rputT t key n) }, 0)
        else if M.limit - M.used < 16 then (M, 4) else ({ M with used := M.used + 16, l := M.l.set j (rputT t key n) }, 0)) := by
      refine Lib.hid ?_
      unfold rputF; rw [if_neg (by rw [hy]; simp), show ((j : Int) + 1 - 1).toNat = j by omega, htt]
    obtain ⟨g, cap, q, etv, hn1, hn2, hgl, hq, hT, _, _, k2, k3, k4, _, _⟩ := HH.out.thing htt
    have hjl : j < M.l.length := (List.getElem?_eq_some_iff.1 htt).1
    obtain ⟨nl, hnl⟩ : ∃ n, M.l.length = n := ⟨_, rfl⟩
    rw [hnl] at etv hn1 hll hjl
    subst etv
    obtain ⟨c0, _, c2l, c3u, _⟩ := HH.out.cell
    have fz3 := HH.out.arr.frozen 3
    have hvk := hvl t (List.mem_of_getElem? htt)
    have HUL := Lib.hid hT.ulen
    have hko := hT.k
    have huo := hT.u
    obtain ⟨Ak, ck, ek, _, _⟩ := (Rd.of_own hko).form
    obtain ⟨Au, cu, eu, _, _⟩ := (Rd.of_own huo).form
    have HVK := Lib.hid hvk
    have HNL := Lib.hid hnl
    rw [ek] at hko k2
    rw [eu] at huo k3
    have HKD := Lib.hid (Rd.of_own hko)
    have HUO1 := Lib.hid huo
    have HEU1 := Lib.hid eu
    have HEK1 := Lib.hid ek
    have HQ1 := Lib.hid hq
    have hFu : Hid (∀ b, q.u.ownBlock = some b → F b) := Lib.hid (fun b e => hT.sF 2 b e)
    have HF := Lib.hid (rfind_any w (.slice Ak t.keys.length ck) t.keys key HKD.out hvk)
    have hjl2 : (j : Int) < nl := by omega
    have hwi : IntKind.i64.wrap (j : Int) = j := IntWalk.i64_in _ ⟨by omega, by omega⟩
    obtain ⟨tf, htf⟩ : ∃ x, t.frame = x := ⟨_, rfl⟩
    obtain ⟨nk0, hnk0⟩ : ∃ x, t.keys.length = x := ⟨_, rfl⟩
    rw [htf] at k4
    rw [hnk0] at k2 k3 HUO1 HEU1 HEK1
    have hnkb : nk0 ≤ 1000000000 := by rw [← hnk0]; exact hvk
    have HTF := Lib.hid htf
    have HNK0 := Lib.hid hnk0
    obtain ⟨x, hx⟩ : ∃ x, findR t.keys key = x := ⟨_, rfl⟩
    have HX := Lib.hid hx
    rw [hnk0] at HF
    clear hy htt htk htg hq hT ek eu hnl hko huo htf hvk hvl hnk0
    by_cases hx0 : 0 ≤ x
    · obtain ⟨xn, hxn1, hxn2⟩ := findR_lt (l := t.keys) (k := key) (by rw [hx]; exact hx0)
      obtain rfl : x = xn := by rw [← hx, hxn1]
      have dx : decide (0 ≤ (xn : Int)) = true := de_t (by omega)
      have hxk : xn < nk0 := by rw [← HNK0.out]; exact hxn2
      have hxk' : (xn : Int) < nk0 := by omega
      have hP : rputF M ((j : Int) + 1) key n = ({ M with l := M.l.set j { t with under := t.under.set xn n } }, 0) := by
        rw [HPF.out, HX.out, if_pos (.inl hx0)]
        have : rputT t key n = { t with under := t.under.set xn n } := by rw [rputT, HX.out, if_pos hx0, Int.toNat_natCast]
        rw [this]
      have HP := Lib.hid hP
      obtain ⟨ub, cap2, e2, _, hub⟩ := HUO1.out.form (by omega)
      cases e2
      obtain ⟨v, hv⟩ : ∃ v, t.under[xn]? = some v := ⟨_, List.getElem?_eq_getElem (by rw [HUL.out]; exact hxn2)⟩
      have b0 : w.cell? ⟨ub, xn, none⟩ = some (I v) := by
        have := HUO1.out.cells (g := ub) rfl xn (I v) (by simp [ints, hv])
        rwa [add_plain', Nat.zero_add] at this
      obtain ⟨cur, hcur⟩ := own_type HUO1.out (k := ub) rfl
      have fz : w.frozen? ⟨ub, xn, none⟩ = false := by simp [World.frozen?, hcur]
      have hFub : Hid (F ub) := Lib.hid (hFu.out ub (by rw [HEU1.out]; rfl))
      clear hP hx hv hxn1 hxn2 hxk hcur
      go_enter Try.func40, Try.ntmps40
      go_wp2_with fail
      refine HWY.out.mono ?_
      rintro e w1 ⟨rfl, rfl⟩
      rw [HY.out]
      go_wp2_with fail
      refine HF.out.mono ?_
      rintro e w1 ⟨rfl, rfl⟩
      rw [HX.out]
      go_wp2
      go_ret
      exact ⟨F, _, qs, by rw [HP.out]; rfl, by rw [HP.out]; exact RmW.setUnder HH.out HNL.out HTT.out HQ1.out HEU1.out, (Chg.refl F _).set (a := ⟨ub, xn, none⟩) hFub.out _, fun b hb => .inl hb⟩
    · have dx : decide (0 ≤ x) = false := de_f hx0
      have hpt : rputT t key n = { t with keys := t.keys ++ [key], under := t.under ++ [n] } := by rw [rputT, HX.out, if_neg hx0]
      have HPT := Lib.hid hpt
      have HX0 := Lib.hid hx0
      clear hx hx0 hpt
      by_cases hf0 : tf = 0
      · subst hf0
        by_cases hr16 : M.limit - M.used < 16
        · have d16 : decide (M.limit - M.used < 16) = true := de_t hr16
          have hP : rputF M ((j : Int) + 1) key n = (M, 4) := by rw [HPF.out, HX.out, if_neg (by rw [HTF.out]; have := HX0.out; simp; omega), if_pos hr16]
          have HP := Lib.hid hP
          have hw1 : IntKind.i64.wrap (M.limit - M.used) = M.limit - M.used := IntWalk.i64_in _ ⟨by omega, by omega⟩
          clear hP hr16
          go_enter Try.func40, Try.ntmps40
          go_wp2_with fail
          refine HWY.out.mono ?_
          rintro e w1 ⟨rfl, rfl⟩
          rw [HY.out]
          go_wp2_with fail
          refine HF.out.mono ?_
          rintro e w1 ⟨rfl, rfl⟩
          rw [HX.out]
          go_wp2_with fail
          go_quiet (fail)
          go_wp2
          go_ret
          exact ⟨F, _, qs, by rw [HP.out]; rfl, by rw [HP.out]; exact HH.out.drewN nq, (Chg.refl F _).drewN nq, fun b hb => .inl hb⟩
        · have d16 : decide (M.limit - M.used < 16) = false := de_f hr16
          have hP : rputF M ((j : Int) + 1) key n = ({ M with used := M.used + 16, l := M.l.set j { t with keys := t.keys ++ [key], under := t.under ++ [n] } }, 0) := by rw [HPF.out, HX.out, if_neg (by rw [HTF.out]; have := HX0.out; simp; omega), if_neg hr16, HPT.out]
          have HP := Lib.hid hP
          have hw1 : IntKind.i64.wrap (M.limit - M.used) = M.limit - M.used := IntWalk.i64_in _ ⟨by omega, by omega⟩
          have hw2 : IntKind.i64.wrap (M.used + 16) = M.used + 16 := IntWalk.i64_in _ ⟨by omega, by omega⟩
          clear hP hr16
          go_enter Try.func40, Try.ntmps40
          go_wp2_with fail
          refine HWY.out.mono ?_
          rintro e w1 ⟨rfl, rfl⟩
          rw [HY.out]
          go_wp2_with fail
          refine HF.out.mono ?_
          rintro e w1 ⟨rfl, rfl⟩
          rw [HX.out]
          go_wp2_with fail
          go_quiet (fail)
          go_upto_region 13 with fail
          have hM1 := RmW.word (M' := { M with used := M.used + 16 }) (HH.out.drewN nq) 3 (I (M.used + 16)) rfl rfl
          have HC1 : Hid (Chg F w1 ((w1.drewN nq).setCell ⟨p, 3, none⟩ (I (M.used + 16)))) := Lib.hid (((Chg.refl F w1).drewN nq).set (a := ⟨p, 3, none⟩) HH.out.fp _)
          obtain ⟨W, hW⟩ : ∃ W, (w1.drewN nq).setCell ⟨p, 3, none⟩ (I (M.used + 16)) = W := ⟨_, rfl⟩
          rw [hW] at hM1 HC1
          rw [hW]
          clear hW hw2 hw1 c0 c2l c3u fz3 k2 k3 k4 hgl
          have hT2 := hM1.each j t q HTT.out HQ1.out
          have hko2 : W.ownsRow 0 2 1 (.slice Ak nk0 ck) nk0 (ints t.keys) := by have := hT2.k; rw [HEK1.out, HNK0.out] at this; exact this
          have huo2 : W.ownsRow 0 2 1 (.slice Au nk0 cu) nk0 (ints t.under) := by have := hT2.u; rw [HEU1.out, HNK0.out] at this; exact this
          obtain ⟨gc, hgc⟩ := own_type hM1.row (k := g) rfl
          have hgl2 := hM1.lt g (hM1.rowF g rfl)
          obtain ⟨c2, c3, hfz⟩ := hM1.ku HTT.out HQ1.out
          rw [HEK1.out] at c2
          rw [HEU1.out] at c3
          have HKO := Lib.hid hko2
          have HUO := Lib.hid huo2
          have HNK : Hid (some g ≠ (Value.slice Ak nk0 ck).ownBlock) := Lib.hid (fun e => by obtain ⟨c2, h2⟩ := own_type HKO.out e.symm; exact ne_type hgc h2 (by decide) rfl)
          have HNU : Hid (some g ≠ (Value.slice Au nk0 cu).ownBlock) := Lib.hid (fun e => by obtain ⟨c2, h2⟩ := own_type HUO.out e.symm; exact ne_type hgc h2 (by decide) rfl)
          have HNE : Hid (∀ b, (Value.slice Ak nk0 ck).ownBlock = some b → (Value.slice Au nk0 cu).ownBlock ≠ some b) := Lib.hid (fun b e1 e2 => hM1.apart j j 1 2 q q HQ1.out HQ1.out (.inr (by decide)) b (by show q.k.ownBlock = _; rw [HEK1.out]; exact e1) (by show q.u.ownBlock = _; rw [HEU1.out]; exact e2))
          have HNOT : Hid (¬ ((Value.slice Ak nk0 ck).ownBlock = some g ∨ (Value.slice Au nk0 cu).ownBlock = some g)) := Lib.hid (fun e => by rcases e with e | e; exact HNK.out e.symm; exact HNU.out e.symm)
          have HFZ := Lib.hid hfz
          have HGL := Lib.hid hgl2
          have HMM := Lib.hid hM1
          clear hfz hT2 hgc hM1 hko2 huo2 hgl2
          refine wp_region_y (fun w' => w'.cell? ⟨g, j * 6 + 2, none⟩ = some (.slice Ak nk0 ck) ∧ w'.cell? ⟨g, j * 6 + 3, none⟩ = some (.slice Au nk0 cu)) [18, 21] (by kernel_rfl) ?_
          have hS0 : W.drew.cell? ⟨g, j * 6 + 2, none⟩ = some (.slice Ak nk0 ck) ∧ W.drew.cell? ⟨g, j * 6 + 3, none⟩ = some (.slice Au nk0 cu) := ⟨c2, c3⟩
          refine wpY_pure (i := 0) (v := ?_) rfl (by kernel_rfl) (fun _ _ _ h => h) (Or.inl ⟨rfl, ?_⟩) (fun _ => hS0) ?_
          rotate_left
          · intro W _
            go_simp
            try (with_reducible rfl)
          refine wpY_pure (i := 1) (v := ?_) rfl (by kernel_rfl) (fun _ _ _ h => h) (Or.inl ⟨rfl, ?_⟩) (fun _ => hS0) ?_
          rotate_left
          · intro W _
            go_simp
            try (with_reducible rfl)
          refine wpY_pure (i := 2) (v := ?_) rfl (by kernel_rfl) (fun _ _ _ h => h) (Or.inl ⟨rfl, ?_⟩) (fun _ => hS0) ?_
          rotate_left
          · intro W _
            go_simp
            try (with_reducible rfl)
          refine wpY_pure (i := 3) (v := ?_) rfl (by kernel_rfl) (fun _ _ _ h => h) (Or.inl ⟨rfl, ?_⟩) (fun _ => hS0) ?_
          rotate_left
          · intro W _
            go_simp
            try (with_reducible rfl)
          refine wpY_pure (i := 4) (v := ?_) rfl (by kernel_rfl) (fun _ _ _ h => h) (Or.inl ⟨rfl, ?_⟩) (fun _ => hS0) ?_
          rotate_left
          · intro W _
            go_simp
            try (with_reducible rfl)
          refine wpY_take (i := 5) (v := ?_) rfl (by kernel_rfl) (fun _ _ _ h => h) (Or.inl ⟨rfl, ?_⟩) hS0 ?_
          rotate_left
          · rintro W ⟨s0, s1⟩
            go_simp
            try (with_reducible rfl)
          refine wpY_pure (i := 6) (v := ?_) rfl (by kernel_rfl) (fun _ _ _ h => h) (Or.inl ⟨rfl, ?_⟩) (fun _ => hS0) ?_
          rotate_left
          · intro W _
            go_simp
            try (with_reducible rfl)
          refine wpY_pure (i := 9) (v := ?_) rfl (by kernel_rfl) (fun _ _ _ h => h) (Or.inl ⟨rfl, ?_⟩) (fun _ => hS0) ?_
          rotate_left
          · intro W _
            go_simp
            try (with_reducible rfl)
          refine wpY_pure (i := 10) (v := ?_) rfl (by kernel_rfl) (fun _ _ _ h => h) (Or.inl ⟨rfl, ?_⟩) (fun _ => hS0) ?_
          rotate_left
          · intro W _
            go_simp
            try (with_reducible rfl)
          refine wpY_pure (i := 11) (v := ?_) rfl (by kernel_rfl) (fun _ _ _ h => h) (Or.inl ⟨rfl, ?_⟩) (fun _ => hS0) ?_
          rotate_left
          · intro W _
            go_simp
            try (with_reducible rfl)
          refine wpY_take (i := 12) (v := ?_) rfl (by kernel_rfl) (fun _ _ _ h => h) (Or.inl ⟨rfl, ?_⟩) hS0 ?_
          rotate_left
          · rintro W ⟨s0, s1⟩
            go_simp
            try (with_reducible rfl)
          refine wpY_pure (i := 13) (v := ?_) rfl (by kernel_rfl) (fun _ _ _ h => h) (Or.inl ⟨rfl, ?_⟩) (fun _ => hS0) ?_
          rotate_left
          · intro W _
            go_simp
            try (with_reducible rfl)
          refine wpY_two (i := 7) (k := 14) rfl rfl (by kernel_rfl) (fun K hK => ?_) (fun K hK => ?_)
          · go_simp
            have hSa : (W.alloc (.cells #[I key] 2)).drew.cell? ⟨g, j * 6 + 2, none⟩ = some (.slice Ak nk0 ck) ∧ (W.alloc (.cells #[I key] 2)).drew.cell? ⟨g, j * 6 + 3, none⟩ = some (.slice Au nk0 cu) := ⟨cell_later _ c2, cell_later _ c3⟩
            refine hK _ _ (fun _ => hSa) ?_
            clear hK K hS0
            refine wpY_two (i := 8) (k := 14) rfl rfl (by kernel_rfl) (fun K hK => ?_) (fun K hK => ?_)
            · refine step_append (by rfl) _ _ _ (by rfl) E36 (by rfl) ((HKO.out.alloc _).drew) (ad := ⟨W.heap.size, 0, none⟩) (m := 1) (c := 1) (news := [I key]) (by rfl) (by rfl) (news1 (cell_new1 W (I key) 2)) (by simp [Value.oneCell']) (by omega) (by simp only [maxLen]; omega) (by omega) (by simp) ?_
              intro g1 cap1 w1 hap1
              have hSb : w1.cell? ⟨g, j * 6 + 2, none⟩ = some (.slice Ak nk0 ck) ∧ w1.cell? ⟨g, j * 6 + 3, none⟩ = some (.slice Au nk0 cu) := ⟨hap1.grew.cell hSa.1 HNK.out, hap1.grew.cell hSa.2 HNK.out⟩
              refine hK _ _ (fun _ => hSb) ?_
              clear hK K hSa
              refine wpY_one (i := 14) rfl (by kernel_rfl) (fun K hK => ?_)
              go_simp
              have hSc : (w1.alloc (.cells #[I n] 2)).cell? ⟨g, j * 6 + 2, none⟩ = some (.slice Ak nk0 ck) ∧ (w1.alloc (.cells #[I n] 2)).cell? ⟨g, j * 6 + 3, none⟩ = some (.slice Au nk0 cu) := ⟨cell_later _ hSb.1, cell_later _ hSb.2⟩
              refine hK _ _ (fun _ => hSc) ?_
              clear hK K hSb
              have hWa : Chg Nof W (W.alloc (.cells #[I key] 2)).drew := (chg_alloc _ _).drew
              have hWb : Chg Nof w1 (w1.alloc (.cells #[I n] 2)) := chg_alloc _ _
              have hub := own_b hWa hap1 hWb HUO.out HNE.out
              refine wpY_one (i := 15) rfl (by kernel_rfl) (fun K hK => ?_)
              refine step_append (by rfl) _ _ _ (by rfl) E36 (by rfl) hub (ad := ⟨w1.heap.size, 0, none⟩) (m := 1) (c := 1) (news := [I n]) (by rfl) (by rfl) (news1 (cell_new1 w1 (I n) 2)) (by simp [Value.oneCell']) (by omega) (by simp only [maxLen]; omega) (by omega) (by simp) ?_
              intro g2 cap2 w2 hap2
              have hS2 : w2.cell? ⟨g, j * 6 + 2, none⟩ = some (.slice Ak nk0 ck) ∧ w2.cell? ⟨g, j * 6 + 3, none⟩ = some (.slice Au nk0 cu) := ⟨hap2.grew.cell hSc.1 HNU.out, hap2.grew.cell hSc.2 HNU.out⟩
              refine hK _ _ (fun _ => hS2) ?_
              clear hK K hSc
              have hmid := mid2 hWa hap1 hWb hap2 HUO.out HNE.out
              clear hap1 hap2 hWa hWb hub
              have hfk : w2.frozen? ⟨g, j * 6 + 2, none⟩ = false := by have := hmid.chg.block g HGL.out HNOT.out; simpa [World.frozen?, this] using HFZ.out (j * 6 + 2)
              have hfu : w2.frozen? ⟨g, j * 6 + 3, none⟩ = false := by have := hmid.chg.block g HGL.out HNOT.out; simpa [World.frozen?, this] using HFZ.out (j * 6 + 3)
              have hck : w2.cell? ⟨g, j * 6 + 2, none⟩ = some (.slice Ak nk0 ck) := hS2.1
              have hcu : w2.cell? ⟨g, j * 6 + 3, none⟩ = some (.slice Au nk0 cu) := hS2.2
              refine wpY_pure (i := 16) (v := ?_) rfl (by kernel_rfl) (fun _ _ _ h => h) (Or.inl ⟨rfl, ?_⟩) (fun _ => hS2) ?_
              rotate_left
              · intro W _
                go_simp
                try (with_reducible rfl)
              refine wpY_pure (i := 17) (v := ?_) rfl (by kernel_rfl) (fun _ _ _ h => h) (Or.inl ⟨rfl, ?_⟩) (fun _ => hS2) ?_
              rotate_left
              · intro W _
                go_simp
                try (with_reducible rfl)
              refine wpY_one (i := 18) rfl (by kernel_rfl) (fun K hK => ?_)
              go_simp
              refine hK _ _ (noz_no (by kernel_rfl)) ?_
              clear hK K
              refine wpY_pure (i := 19) (v := ?_) rfl (by kernel_rfl) (fun _ _ _ h => h) (Or.inl ⟨rfl, ?_⟩) (noz_no (by kernel_rfl)) ?_
              rotate_left
              · intro W _
                go_simp
                try (with_reducible rfl)
              refine wpY_pure (i := 20) (v := ?_) rfl (by kernel_rfl) (fun _ _ _ h => h) (Or.inl ⟨rfl, ?_⟩) (noz_no (by kernel_rfl)) ?_
              rotate_left
              · intro W _
                go_simp
                try (with_reducible rfl)
              refine wpY_one (i := 21) rfl (by kernel_rfl) (fun K hK => ?_)
              go_simp
              refine hK _ _ (noz_no (by kernel_rfl)) ?_
              clear hK K
              refine wpY_done (by kernel_rfl) ?_ _
              have HMID := Lib.hid hmid
              clear hfk hfu hck hcu hS2 hmid
              go_wp2
              go_ret
              have hm2 : Mid2 W w2 q.k q.u (.slice (some ⟨g1, 0, none⟩) (nk0 + 1) cap1) (.slice (some ⟨g2, 0, none⟩) (nk0 + 1) cap2) (nk0 + 1) (ints t.keys ++ [I key]) (ints t.under ++ [I n]) := by rw [HEK1.out, HEU1.out]; exact HMID.out
              obtain ⟨F', qs', r1, r2, r3⟩ := RmW.put2 (M := { M with used := M.used + 16 }) HMM.out HNL.out HTT.out HQ1.out (by rw [HNK0.out]) hm2
              refine ⟨F', _, qs', by rw [HP.out]; rfl, by rw [HP.out]; exact r1, HC1.out.trans r2 (fun _ h => h) (fun _ h _ => h), fun b hb => ?_⟩
              rcases r3 b hb with e | e
              · exact .inl e
              · exact .inr (Nat.le_trans HC1.out.size e)
            · go_simp
              have hSb : ((W.alloc (.cells #[I key] 2)).alloc (.cells #[I n] 2)).drew.cell? ⟨g, j * 6 + 2, none⟩ = some (.slice Ak nk0 ck) ∧ ((W.alloc (.cells #[I key] 2)).alloc (.cells #[I n] 2)).drew.cell? ⟨g, j * 6 + 3, none⟩ = some (.slice Au nk0 cu) := ⟨cell_later _ hSa.1, cell_later _ hSa.2⟩
              refine hK _ _ (fun _ => hSb) ?_
              clear hK K hSa
              refine wpY_one (i := 8) rfl (by kernel_rfl) (fun K hK => ?_)
              refine step_append (by rfl) _ _ _ (by rfl) E36 (by rfl) (((HKO.out.alloc _).alloc _).drew) (ad := ⟨W.heap.size, 0, none⟩) (m := 1) (c := 1) (news := [I key]) (by rfl) (by rfl) (news1 (cell_later (.cells #[I n] 2) (cell_new1 W (I key) 2))) (by simp [Value.oneCell']) (by omega) (by simp only [maxLen]; omega) (by omega) (by simp) ?_
              intro g1 cap1 w1 hap1
              have hSc : w1.cell? ⟨g, j * 6 + 2, none⟩ = some (.slice Ak nk0 ck) ∧ w1.cell? ⟨g, j * 6 + 3, none⟩ = some (.slice Au nk0 cu) := ⟨hap1.grew.cell hSb.1 HNK.out, hap1.grew.cell hSb.2 HNK.out⟩
              have hcb : w1.cell? ⟨W.heap.size + 1, 0, none⟩ = some (I n) := hap1.grew.cell (by simp) (fun e => by have := (HKO.out.lt (W.heap.size + 1) e.symm).2; omega)
              refine hK _ _ (fun _ => hSc) ?_
              clear hK K hSb
              have hWa : Chg Nof W ((W.alloc (.cells #[I key] 2)).alloc (.cells #[I n] 2)).drew := (chg_seq (chg_alloc _ _) (chg_alloc _ _)).drew
              have hWb : Chg Nof w1 w1 := Chg.refl _ _
              have hub := own_b hWa hap1 hWb HUO.out HNE.out
              refine wpY_one (i := 15) rfl (by kernel_rfl) (fun K hK => ?_)
              refine step_append (by rfl) _ _ _ (by rfl) E36 (by rfl) hub (ad := ⟨W.heap.size + 1, 0, none⟩) (m := 1) (c := 1) (news := [I n]) (by rfl) (by rfl) (news1 hcb) (by simp [Value.oneCell']) (by omega) (by simp only [maxLen]; omega) (by omega) (by simp) ?_
              intro g2 cap2 w2 hap2
              have hS2 : w2.cell? ⟨g, j * 6 + 2, none⟩ = some (.slice Ak nk0 ck) ∧ w2.cell? ⟨g, j * 6 + 3, none⟩ = some (.slice Au nk0 cu) := ⟨hap2.grew.cell hSc.1 HNU.out, hap2.grew.cell hSc.2 HNU.out⟩
              refine hK _ _ (fun _ => hS2) ?_
              clear hK K hSc hcb
              have hmid := mid2 hWa hap1 hWb hap2 HUO.out HNE.out
              clear hap1 hap2 hWa hWb hub
              have hfk : w2.frozen? ⟨g, j * 6 + 2, none⟩ = false := by have := hmid.chg.block g HGL.out HNOT.out; simpa [World.frozen?, this] using HFZ.out (j * 6 + 2)
              have hfu : w2.frozen? ⟨g, j * 6 + 3, none⟩ = false := by have := hmid.chg.block g HGL.out HNOT.out; simpa [World.frozen?, this] using HFZ.out (j * 6 + 3)
              have hck : w2.cell? ⟨g, j * 6 + 2, none⟩ = some (.slice Ak nk0 ck) := hS2.1
              have hcu : w2.cell? ⟨g, j * 6 + 3, none⟩ = some (.slice Au nk0 cu) := hS2.2
              refine wpY_pure (i := 16) (v := ?_) rfl (by kernel_rfl) (fun _ _ _ h => h) (Or.inl ⟨rfl, ?_⟩) (fun _ => hS2) ?_
              rotate_left
              · intro W _
                go_simp
                try (with_reducible rfl)
              refine wpY_pure (i := 17) (v := ?_) rfl (by kernel_rfl) (fun _ _ _ h => h) (Or.inl ⟨rfl, ?_⟩) (fun _ => hS2) ?_
              rotate_left
              · intro W _
                go_simp
                try (with_reducible rfl)
              refine wpY_one (i := 18) rfl (by kernel_rfl) (fun K hK => ?_)
              go_simp
              refine hK _ _ (noz_no (by kernel_rfl)) ?_
              clear hK K
              refine wpY_pure (i := 19) (v := ?_) rfl (by kernel_rfl) (fun _ _ _ h => h) (Or.inl ⟨rfl, ?_⟩) (noz_no (by kernel_rfl)) ?_
              rotate_left
              · intro W _
                go_simp
                try (with_reducible rfl)
              refine wpY_pure (i := 20) (v := ?_) rfl (by kernel_rfl) (fun _ _ _ h => h) (Or.inl ⟨rfl, ?_⟩) (noz_no (by kernel_rfl)) ?_
              rotate_left
              · intro W _
                go_simp
                try (with_reducible rfl)
              refine wpY_one (i := 21) rfl (by kernel_rfl) (fun K hK => ?_)
              go_simp
              refine hK _ _ (noz_no (by kernel_rfl)) ?_
              clear hK K
              refine wpY_done (by kernel_rfl) ?_ _
              have HMID := Lib.hid hmid
              clear hfk hfu hck hcu hS2 hmid
              go_wp2
              go_ret
              have hm2 : Mid2 W w2 q.k q.u (.slice (some ⟨g1, 0, none⟩) (nk0 + 1) cap1) (.slice (some ⟨g2, 0, none⟩) (nk0 + 1) cap2) (nk0 + 1) (ints t.keys ++ [I key]) (ints t.under ++ [I n]) := by rw [HEK1.out, HEU1.out]; exact HMID.out
              obtain ⟨F', qs', r1, r2, r3⟩ := RmW.put2 (M := { M with used := M.used + 16 }) HMM.out HNL.out HTT.out HQ1.out (by rw [HNK0.out]) hm2
              refine ⟨F', _, qs', by rw [HP.out]; rfl, by rw [HP.out]; exact r1, HC1.out.trans r2 (fun _ h => h) (fun _ h _ => h), fun b hb => ?_⟩
              rcases r3 b hb with e | e
              · exact .inl e
              · exact .inr (Nat.le_trans HC1.out.size e)
          · go_simp
            have hSa : (W.alloc (.cells #[I n] 2)).drew.cell? ⟨g, j * 6 + 2, none⟩ = some (.slice Ak nk0 ck) ∧ (W.alloc (.cells #[I n] 2)).drew.cell? ⟨g, j * 6 + 3, none⟩ = some (.slice Au nk0 cu) := ⟨cell_later _ c2, cell_later _ c3⟩
            refine hK _ _ (fun _ => hSa) ?_
            clear hK K hS0
            refine wpY_one (i := 7) rfl (by kernel_rfl) (fun K hK => ?_)
            go_simp
            have hSb : ((W.alloc (.cells #[I n] 2)).alloc (.cells #[I key] 2)).drew.cell? ⟨g, j * 6 + 2, none⟩ = some (.slice Ak nk0 ck) ∧ ((W.alloc (.cells #[I n] 2)).alloc (.cells #[I key] 2)).drew.cell? ⟨g, j * 6 + 3, none⟩ = some (.slice Au nk0 cu) := ⟨cell_later _ hSa.1, cell_later _ hSa.2⟩
            refine hK _ _ (fun _ => hSb) ?_
            clear hK K hSa
            refine wpY_one (i := 8) rfl (by kernel_rfl) (fun K hK => ?_)
            refine step_append (by rfl) _ _ _ (by rfl) E36 (by rfl) (((HKO.out.alloc _).alloc _).drew) (ad := ⟨W.heap.size + 1, 0, none⟩) (m := 1) (c := 1) (news := [I key]) (by rfl) (by rfl) (news1 (by simp)) (by simp [Value.oneCell']) (by omega) (by simp only [maxLen]; omega) (by omega) (by simp) ?_
            intro g1 cap1 w1 hap1
            have hSc : w1.cell? ⟨g, j * 6 + 2, none⟩ = some (.slice Ak nk0 ck) ∧ w1.cell? ⟨g, j * 6 + 3, none⟩ = some (.slice Au nk0 cu) := ⟨hap1.grew.cell hSb.1 HNK.out, hap1.grew.cell hSb.2 HNK.out⟩
            have hcb : w1.cell? ⟨W.heap.size, 0, none⟩ = some (I n) := hap1.grew.cell (cell_later (.cells #[I key] 2) (cell_new1 W (I n) 2)) (fun e => by have := (HKO.out.lt W.heap.size e.symm).2; omega)
            refine hK _ _ (fun _ => hSc) ?_
            clear hK K hSb
            have hWa : Chg Nof W ((W.alloc (.cells #[I n] 2)).alloc (.cells #[I key] 2)).drew := (chg_seq (chg_alloc _ _) (chg_alloc _ _)).drew
            have hWb : Chg Nof w1 w1 := Chg.refl _ _
            have hub := own_b hWa hap1 hWb HUO.out HNE.out
            refine wpY_one (i := 15) rfl (by kernel_rfl) (fun K hK => ?_)
            refine step_append (by rfl) _ _ _ (by rfl) E36 (by rfl) hub (ad := ⟨W.heap.size, 0, none⟩) (m := 1) (c := 1) (news := [I n]) (by rfl) (by rfl) (news1 hcb) (by simp [Value.oneCell']) (by omega) (by simp only [maxLen]; omega) (by omega) (by simp) ?_
            intro g2 cap2 w2 hap2
            have hS2 : w2.cell? ⟨g, j * 6 + 2, none⟩ = some (.slice Ak nk0 ck) ∧ w2.cell? ⟨g, j * 6 + 3, none⟩ = some (.slice Au nk0 cu) := ⟨hap2.grew.cell hSc.1 HNU.out, hap2.grew.cell hSc.2 HNU.out⟩
            refine hK _ _ (fun _ => hS2) ?_
            clear hK K hSc hcb
            have hmid := mid2 hWa hap1 hWb hap2 HUO.out HNE.out
            clear hap1 hap2 hWa hWb hub
            have hfk : w2.frozen? ⟨g, j * 6 + 2, none⟩ = false := by have := hmid.chg.block g HGL.out HNOT.out; simpa [World.frozen?, this] using HFZ.out (j * 6 + 2)
            have hfu : w2.frozen? ⟨g, j * 6 + 3, none⟩ = false := by have := hmid.chg.block g HGL.out HNOT.out; simpa [World.frozen?, this] using HFZ.out (j * 6 + 3)
            have hck : w2.cell? ⟨g, j * 6 + 2, none⟩ = some (.slice Ak nk0 ck) := hS2.1
            have hcu : w2.cell? ⟨g, j * 6 + 3, none⟩ = some (.slice Au nk0 cu) := hS2.2
            refine wpY_pure (i := 16) (v := ?_) rfl (by kernel_rfl) (fun _ _ _ h => h) (Or.inl ⟨rfl, ?_⟩) (fun _ => hS2) ?_
            rotate_left
            · intro W _
              go_simp
              try (with_reducible rfl)
            refine wpY_pure (i := 17) (v := ?_) rfl (by kernel_rfl) (fun _ _ _ h => h) (Or.inl ⟨rfl, ?_⟩) (fun _ => hS2) ?_
            rotate_left
            · intro W _
              go_simp
              try (with_reducible rfl)
            refine wpY_one (i := 18) rfl (by kernel_rfl) (fun K hK => ?_)
            go_simp
            refine hK _ _ (noz_no (by kernel_rfl)) ?_
            clear hK K
            refine wpY_pure (i := 19) (v := ?_) rfl (by kernel_rfl) (fun _ _ _ h => h) (Or.inl ⟨rfl, ?_⟩) (noz_no (by kernel_rfl)) ?_
            rotate_left
            · intro W _
              go_simp
              try (with_reducible rfl)
            refine wpY_pure (i := 20) (v := ?_) rfl (by kernel_rfl) (fun _ _ _ h => h) (Or.inl ⟨rfl, ?_⟩) (noz_no (by kernel_rfl)) ?_
            rotate_left
            · intro W _
              go_simp
              try (with_reducible rfl)
            refine wpY_one (i := 21) rfl (by kernel_rfl) (fun K hK => ?_)
            go_simp
            refine hK _ _ (noz_no (by kernel_rfl)) ?_
            clear hK K
            refine wpY_done (by kernel_rfl) ?_ _
            have HMID := Lib.hid hmid
            clear hfk hfu hck hcu hS2 hmid
            go_wp2
            go_ret
            have hm2 : Mid2 W w2 q.k q.u (.slice (some ⟨g1, 0, none⟩) (nk0 + 1) cap1) (.slice (some ⟨g2, 0, none⟩) (nk0 + 1) cap2) (nk0 + 1) (ints t.keys ++ [I key]) (ints t.under ++ [I n]) := by rw [HEK1.out, HEU1.out]; exact HMID.out
            obtain ⟨F', qs', r1, r2, r3⟩ := RmW.put2 (M := { M with used := M.used + 16 }) HMM.out HNL.out HTT.out HQ1.out (by rw [HNK0.out]) hm2
            refine ⟨F', _, qs', by rw [HP.out]; rfl, by rw [HP.out]; exact r1, HC1.out.trans r2 (fun _ h => h) (fun _ h _ => h), fun b hb => ?_⟩
            rcases r3 b hb with e | e
            · exact .inl e
            · exact .inr (Nat.le_trans HC1.out.size e)
      · have df : (tf == 0) = false := by simpa using hf0
        have hP : rputF M ((j : Int) + 1) key n = ({ M with l := M.l.set j { t with keys := t.keys ++ [key], under := t.under ++ [n] } }, 0) := by rw [HPF.out, HX.out, if_pos (.inr (by rw [HTF.out]; exact hf0)), HPT.out]
        have HP := Lib.hid hP
        clear hP hf0
        go_enter Try.func40, Try.ntmps40
        go_wp2_with fail
        refine HWY.out.mono ?_
        rintro e w1 ⟨rfl, rfl⟩
        rw [HY.out]
        go_wp2_with fail
        refine HF.out.mono ?_
        rintro e w1 ⟨rfl, rfl⟩
        rw [HX.out]
        go_upto_region 13 with fail
        have hM1 := HH.out
        obtain ⟨W, hW⟩ : ∃ W, w1 = W := ⟨_, rfl⟩
        have HC1 : Hid (Chg F w1 W) := Lib.hid (by rw [← hW]; exact Chg.refl F w1)
        rw [hW] at hM1
        rw [hW]
        clear hW c0 c2l c3u fz3 k2 k3 k4 hgl
        have hT2 := hM1.each j t q HTT.out HQ1.out
        have hko2 : W.ownsRow 0 2 1 (.slice Ak nk0 ck) nk0 (ints t.keys) := by have := hT2.k; rw [HEK1.out, HNK0.out] at this; exact this
        have huo2 : W.ownsRow 0 2 1 (.slice Au nk0 cu) nk0 (ints t.under) := by have := hT2.u; rw [HEU1.out, HNK0.out] at this; exact this
        obtain ⟨gc, hgc⟩ := own_type hM1.row (k := g) rfl
        have hgl2 := hM1.lt g (hM1.rowF g rfl)
        obtain ⟨c2, c3, hfz⟩ := hM1.ku HTT.out HQ1.out
        rw [HEK1.out] at c2
        rw [HEU1.out] at c3
        have HKO := Lib.hid hko2
        have HUO := Lib.hid huo2
        have HNK : Hid (some g ≠ (Value.slice Ak nk0 ck).ownBlock) := Lib.hid (fun e => by obtain ⟨c2, h2⟩ := own_type HKO.out e.symm; exact ne_type hgc h2 (by decide) rfl)
        have HNU : Hid (some g ≠ (Value.slice Au nk0 cu).ownBlock) := Lib.hid (fun e => by obtain ⟨c2, h2⟩ := own_type HUO.out e.symm; exact ne_type hgc h2 (by decide) rfl)
        have HNE : Hid (∀ b, (Value.slice Ak nk0 ck).ownBlock = some b → (Value.slice Au nk0 cu).ownBlock ≠ some b) := Lib.hid (fun b e1 e2 => hM1.apart j j 1 2 q q HQ1.out HQ1.out (.inr (by decide)) b (by show q.k.ownBlock = _; rw [HEK1.out]; exact e1) (by show q.u.ownBlock = _; rw [HEU1.out]; exact e2))
        have HNOT : Hid (¬ ((Value.slice Ak nk0 ck).ownBlock = some g ∨ (Value.slice Au nk0 cu).ownBlock = some g)) := Lib.hid (fun e => by rcases e with e | e; exact HNK.out e.symm; exact HNU.out e.symm)
        have HFZ := Lib.hid hfz
        have HGL := Lib.hid hgl2
        have HMM := Lib.hid hM1
        clear hfz hT2 hgc hM1 hko2 huo2 hgl2
        refine wp_region_y (fun w' => w'.cell? ⟨g, j * 6 + 2, none⟩ = some (.slice Ak nk0 ck) ∧ w'.cell? ⟨g, j * 6 + 3, none⟩ = some (.slice Au nk0 cu)) [18, 21] (by kernel_rfl) ?_
        have hS0 : W.drew.cell? ⟨g, j * 6 + 2, none⟩ = some (.slice Ak nk0 ck) ∧ W.drew.cell? ⟨g, j * 6 + 3, none⟩ = some (.slice Au nk0 cu) := ⟨c2, c3⟩
        refine wpY_pure (i := 0) (v := ?_) rfl (by kernel_rfl) (fun _ _ _ h => h) (Or.inl ⟨rfl, ?_⟩) (fun _ => hS0) ?_
        rotate_left
        · intro W _
          go_simp
          try (with_reducible rfl)
        refine wpY_pure (i := 1) (v := ?_) rfl (by kernel_rfl) (fun _ _ _ h => h) (Or.inl ⟨rfl, ?_⟩) (fun _ => hS0) ?_
        rotate_left
        · intro W _
          go_simp
          try (with_reducible rfl)
        refine wpY_pure (i := 2) (v := ?_) rfl (by kernel_rfl) (fun _ _ _ h => h) (Or.inl ⟨rfl, ?_⟩) (fun _ => hS0) ?_
        rotate_left
        · intro W _
          go_simp
          try (with_reducible rfl)
        refine wpY_pure (i := 3) (v := ?_) rfl (by kernel_rfl) (fun _ _ _ h => h) (Or.inl ⟨rfl, ?_⟩) (fun _ => hS0) ?_
        rotate_left
        · intro W _
          go_simp
          try (with_reducible rfl)
        refine wpY_pure (i := 4) (v := ?_) rfl (by kernel_rfl) (fun _ _ _ h => h) (Or.inl ⟨rfl, ?_⟩) (fun _ => hS0) ?_
        rotate_left
        · intro W _
          go_simp
          try (with_reducible rfl)
        refine wpY_take (i := 5) (v := ?_) rfl (by kernel_rfl) (fun _ _ _ h => h) (Or.inl ⟨rfl, ?_⟩) hS0 ?_
        rotate_left
        · rintro W ⟨s0, s1⟩
          go_simp
          try (with_reducible rfl)
        refine wpY_pure (i := 6) (v := ?_) rfl (by kernel_rfl) (fun _ _ _ h => h) (Or.inl ⟨rfl, ?_⟩) (fun _ => hS0) ?_
        rotate_left
        · intro W _
          go_simp
          try (with_reducible rfl)
        refine wpY_pure (i := 9) (v := ?_) rfl (by kernel_rfl) (fun _ _ _ h => h) (Or.inl ⟨rfl, ?_⟩) (fun _ => hS0) ?_
        rotate_left
        · intro W _
          go_simp
          try (with_reducible rfl)
        refine wpY_pure (i := 10) (v := ?_) rfl (by kernel_rfl) (fun _ _ _ h => h) (Or.inl ⟨rfl, ?_⟩) (fun _ => hS0) ?_
        rotate_left
        · intro W _
          go_simp
          try (with_reducible rfl)
        refine wpY_pure (i := 11) (v := ?_) rfl (by kernel_rfl) (fun _ _ _ h => h) (Or.inl ⟨rfl, ?_⟩) (fun _ => hS0) ?_
        rotate_left
        · intro W _
          go_simp
          try (with_reducible rfl)
        refine wpY_take (i := 12) (v := ?_) rfl (by kernel_rfl) (fun _ _ _ h => h) (Or.inl ⟨rfl, ?_⟩) hS0 ?_
        rotate_left
        · rintro W ⟨s0, s1⟩
          go_simp
          try (with_reducible rfl)
        refine wpY_pure (i := 13) (v := ?_) rfl (by kernel_rfl) (fun _ _ _ h => h) (Or.inl ⟨rfl, ?_⟩) (fun _ => hS0) ?_
        rotate_left
        · intro W _
          go_simp
          try (with_reducible rfl)
        refine wpY_two (i := 7) (k := 14) rfl rfl (by kernel_rfl) (fun K hK => ?_) (fun K hK => ?_)
        · go_simp
          have hSa : (W.alloc (.cells #[I key] 2)).drew.cell? ⟨g, j * 6 + 2, none⟩ = some (.slice Ak nk0 ck) ∧ (W.alloc (.cells #[I key] 2)).drew.cell? ⟨g, j * 6 + 3, none⟩ = some (.slice Au nk0 cu) := ⟨cell_later _ c2, cell_later _ c3⟩
          refine hK _ _ (fun _ => hSa) ?_
          clear hK K hS0
          refine wpY_two (i := 8) (k := 14) rfl rfl (by kernel_rfl) (fun K hK => ?_) (fun K hK => ?_)
          · refine step_append (by rfl) _ _ _ (by rfl) E36 (by rfl) ((HKO.out.alloc _).drew) (ad := ⟨W.heap.size, 0, none⟩) (m := 1) (c := 1) (news := [I key]) (by rfl) (by rfl) (news1 (cell_new1 W (I key) 2)) (by simp [Value.oneCell']) (by omega) (by simp only [maxLen]; omega) (by omega) (by simp) ?_
            intro g1 cap1 w1 hap1
            have hSb : w1.cell? ⟨g, j * 6 + 2, none⟩ = some (.slice Ak nk0 ck) ∧ w1.cell? ⟨g, j * 6 + 3, none⟩ = some (.slice Au nk0 cu) := ⟨hap1.grew.cell hSa.1 HNK.out, hap1.grew.cell hSa.2 HNK.out⟩
            refine hK _ _ (fun _ => hSb) ?_
            clear hK K hSa
            refine wpY_one (i := 14) rfl (by kernel_rfl) (fun K hK => ?_)
            go_simp
            have hSc : (w1.alloc (.cells #[I n] 2)).cell? ⟨g, j * 6 + 2, none⟩ = some (.slice Ak nk0 ck) ∧ (w1.alloc (.cells #[I n] 2)).cell? ⟨g, j * 6 + 3, none⟩ = some (.slice Au nk0 cu) := ⟨cell_later _ hSb.1, cell_later _ hSb.2⟩
            refine hK _ _ (fun _ => hSc) ?_
            clear hK K hSb
            have hWa : Chg Nof W (W.alloc (.cells #[I key] 2)).drew := (chg_alloc _ _).drew
            have hWb : Chg Nof w1 (w1.alloc (.cells #[I n] 2)) := chg_alloc _ _
            have hub := own_b hWa hap1 hWb HUO.out HNE.out
            refine wpY_one (i := 15) rfl (by kernel_rfl) (fun K hK => ?_)
            refine step_append (by rfl) _ _ _ (by rfl) E36 (by rfl) hub (ad := ⟨w1.heap.size, 0, none⟩) (m := 1) (c := 1) (news := [I n]) (by rfl) (by rfl) (news1 (cell_new1 w1 (I n) 2)) (by simp [Value.oneCell']) (by omega) (by simp only [maxLen]; omega) (by omega) (by simp) ?_
            intro g2 cap2 w2 hap2
            have hS2 : w2.cell? ⟨g, j * 6 + 2, none⟩ = some (.slice Ak nk0 ck) ∧ w2.cell? ⟨g, j * 6 + 3, none⟩ = some (.slice Au nk0 cu) := ⟨hap2.grew.cell hSc.1 HNU.out, hap2.grew.cell hSc.2 HNU.out⟩
            refine hK _ _ (fun _ => hS2) ?_
            clear hK K hSc
            have hmid := mid2 hWa hap1 hWb hap2 HUO.out HNE.out
            clear hap1 hap2 hWa hWb hub
            have hfk : w2.frozen? ⟨g, j * 6 + 2, none⟩ = false := by have := hmid.chg.block g HGL.out HNOT.out; simpa [World.frozen?, this] using HFZ.out (j * 6 + 2)
            have hfu : w2.frozen? ⟨g, j * 6 + 3, none⟩ = false := by have := hmid.chg.block g HGL.out HNOT.out; simpa [World.frozen?, this] using HFZ.out (j * 6 + 3)
            have hck : w2.cell? ⟨g, j * 6 + 2, none⟩ = some (.slice Ak nk0 ck) := hS2.1
            have hcu : w2.cell? ⟨g, j * 6 + 3, none⟩ = some (.slice Au nk0 cu) := hS2.2
            refine wpY_pure (i := 16) (v := ?_) rfl (by kernel_rfl) (fun _ _ _ h => h) (Or.inl ⟨rfl, ?_⟩) (fun _ => hS2) ?_
            rotate_left
            · intro W _
              go_simp
              try (with_reducible rfl)
            refine wpY_pure (i := 17) (v := ?_) rfl (by kernel_rfl) (fun _ _ _ h => h) (Or.inl ⟨rfl, ?_⟩) (fun _ => hS2) ?_
            rotate_left
            · intro W _
              go_simp
              try (with_reducible rfl)
            refine wpY_one (i := 18) rfl (by kernel_rfl) (fun K hK => ?_)
            go_simp
            refine hK _ _ (noz_no (by kernel_rfl)) ?_
            clear hK K
            refine wpY_pure (i := 19) (v := ?_) rfl (by kernel_rfl) (fun _ _ _ h => h) (Or.inl ⟨rfl, ?_⟩) (noz_no (by kernel_rfl)) ?_
            rotate_left
            · intro W _
              go_simp
              try (with_reducible rfl)
            refine wpY_pure (i := 20) (v := ?_) rfl (by kernel_rfl) (fun _ _ _ h => h) (Or.inl ⟨rfl, ?_⟩) (noz_no (by kernel_rfl)) ?_
            rotate_left
            · intro W _
              go_simp
              try (with_reducible rfl)
            refine wpY_one (i := 21) rfl (by kernel_rfl) (fun K hK => ?_)
            go_simp
            refine hK _ _ (noz_no (by kernel_rfl)) ?_
            clear hK K
            refine wpY_done (by kernel_rfl) ?_ _
            have HMID := Lib.hid hmid
            clear hfk hfu hck hcu hS2 hmid
            go_wp2
            go_ret
            have hm2 : Mid2 W w2 q.k q.u (.slice (some ⟨g1, 0, none⟩) (nk0 + 1) cap1) (.slice (some ⟨g2, 0, none⟩) (nk0 + 1) cap2) (nk0 + 1) (ints t.keys ++ [I key]) (ints t.under ++ [I n]) := by rw [HEK1.out, HEU1.out]; exact HMID.out
            obtain ⟨F', qs', r1, r2, r3⟩ := RmW.put2 (M := M) HMM.out HNL.out HTT.out HQ1.out (by rw [HNK0.out]) hm2
            refine ⟨F', _, qs', by rw [HP.out]; rfl, by rw [HP.out]; exact r1, HC1.out.trans r2 (fun _ h => h) (fun _ h _ => h), fun b hb => ?_⟩
            rcases r3 b hb with e | e
            · exact .inl e
            · exact .inr (Nat.le_trans HC1.out.size e)
          · go_simp
            have hSb : ((W.alloc (.cells #[I key] 2)).alloc (.cells #[I n] 2)).drew.cell? ⟨g, j * 6 + 2, none⟩ = some (.slice Ak nk0 ck) ∧ ((W.alloc (.cells #[I key] 2)).alloc (.cells #[I n] 2)).drew.cell? ⟨g, j * 6 + 3, none⟩ = some (.slice Au nk0 cu) := ⟨cell_later _ hSa.1, cell_later _ hSa.2⟩
            refine hK _ _ (fun _ => hSb) ?_
            clear hK K hSa
            refine wpY_one (i := 8) rfl (by kernel_rfl) (fun K hK => ?_)
            refine step_append (by rfl) _ _ _ (by rfl) E36 (by rfl) (((HKO.out.alloc _).alloc _).drew) (ad := ⟨W.heap.size, 0, none⟩) (m := 1) (c := 1) (news := [I key]) (by rfl) (by rfl) (news1 (cell_later (.cells #[I n] 2) (cell_new1 W (I key) 2))) (by simp [Value.oneCell']) (by omega) (by simp only [maxLen]; omega) (by omega) (by simp) ?_
            intro g1 cap1 w1 hap1
            have hSc : w1.cell? ⟨g, j * 6 + 2, none⟩ = some (.slice Ak nk0 ck) ∧ w1.cell? ⟨g, j * 6 + 3, none⟩ = some (.slice Au nk0 cu) := ⟨hap1.grew.cell hSb.1 HNK.out, hap1.grew.cell hSb.2 HNK.out⟩
            have hcb : w1.cell? ⟨W.heap.size + 1, 0, none⟩ = some (I n) := hap1.grew.cell (by simp) (fun e => by have := (HKO.out.lt (W.heap.size + 1) e.symm).2; omega)
            refine hK _ _ (fun _ => hSc) ?_
            clear hK K hSb
            have hWa : Chg Nof W ((W.alloc (.cells #[I key] 2)).alloc (.cells #[I n] 2)).drew := (chg_seq (chg_alloc _ _) (chg_alloc _ _)).drew
            have hWb : Chg Nof w1 w1 := Chg.refl _ _
            have hub := own_b hWa hap1 hWb HUO.out HNE.out
            refine wpY_one (i := 15) rfl (by kernel_rfl) (fun K hK => ?_)
            refine step_append (by rfl) _ _ _ (by rfl) E36 (by rfl) hub (ad := ⟨W.heap.size + 1, 0, none⟩) (m := 1) (c := 1) (news := [I n]) (by rfl) (by rfl) (news1 hcb) (by simp [Value.oneCell']) (by omega) (by simp only [maxLen]; omega) (by omega) (by simp) ?_
            intro g2 cap2 w2 hap2
            have hS2 : w2.cell? ⟨g, j * 6 + 2, none⟩ = some (.slice Ak nk0 ck) ∧ w2.cell? ⟨g, j * 6 + 3, none⟩ = some (.slice Au nk0 cu) := ⟨hap2.grew.cell hSc.1 HNU.out, hap2.grew.cell hSc.2 HNU.out⟩
            refine hK _ _ (fun _ => hS2) ?_
            clear hK K hSc hcb
            have hmid := mid2 hWa hap1 hWb hap2 HUO.out HNE.out
            clear hap1 hap2 hWa hWb hub
            have hfk : w2.frozen? ⟨g, j * 6 + 2, none⟩ = false := by have := hmid.chg.block g HGL.out HNOT.out; simpa [World.frozen?, this] using HFZ.out (j * 6 + 2)
            have hfu : w2.frozen? ⟨g, j * 6 + 3, none⟩ = false := by have := hmid.chg.block g HGL.out HNOT.out; simpa [World.frozen?, this] using HFZ.out (j * 6 + 3)
            have hck : w2.cell? ⟨g, j * 6 + 2, none⟩ = some (.slice Ak nk0 ck) := hS2.1
            have hcu : w2.cell? ⟨g, j * 6 + 3, none⟩ = some (.slice Au nk0 cu) := hS2.2
            refine wpY_pure (i := 16) (v := ?_) rfl (by kernel_rfl) (fun _ _ _ h => h) (Or.inl ⟨rfl, ?_⟩) (fun _ => hS2) ?_
            rotate_left
            · intro W _
              go_simp
              try (with_reducible rfl)
            refine wpY_pure (i := 17) (v := ?_) rfl (by kernel_rfl) (fun _ _ _ h => h) (Or.inl ⟨rfl, ?_⟩) (fun _ => hS2) ?_
            rotate_left
            · intro W _
              go_simp
              try (with_reducible rfl)
            refine wpY_one (i := 18) rfl (by kernel_rfl) (fun K hK => ?_)
            go_simp
            refine hK _ _ (noz_no (by kernel_rfl)) ?_
            clear hK K
            refine wpY_pure (i := 19) (v := ?_) rfl (by kernel_rfl) (fun _ _ _ h => h) (Or.inl ⟨rfl, ?_⟩) (noz_no (by kernel_rfl)) ?_
            rotate_left
            · intro W _
              go_simp
              try (with_reducible rfl)
            refine wpY_pure (i := 20) (v := ?_) rfl (by kernel_rfl) (fun _ _ _ h => h) (Or.inl ⟨rfl, ?_⟩) (noz_no (by kernel_rfl)) ?_
            rotate_left
            · intro W _
              go_simp
              try (with_reducible rfl)
            refine wpY_one (i := 21) rfl (by kernel_rfl) (fun K hK => ?_)
            go_simp
            refine hK _ _ (noz_no (by kernel_rfl)) ?_
            clear hK K
            refine wpY_done (by kernel_rfl) ?_ _
            have HMID := Lib.hid hmid
            clear hfk hfu hck hcu hS2 hmid
            go_wp2
            go_ret
            have hm2 : Mid2 W w2 q.k q.u (.slice (some ⟨g1, 0, none⟩) (nk0 + 1) cap1) (.slice (some ⟨g2, 0, none⟩) (nk0 + 1) cap2) (nk0 + 1) (ints t.keys ++ [I key]) (ints t.under ++ [I n]) := by rw [HEK1.out, HEU1.out]; exact HMID.out
            obtain ⟨F', qs', r1, r2, r3⟩ := RmW.put2 (M := M) HMM.out HNL.out HTT.out HQ1.out (by rw [HNK0.out]) hm2
            refine ⟨F', _, qs', by rw [HP.out]; rfl, by rw [HP.out]; exact r1, HC1.out.trans r2 (fun _ h => h) (fun _ h _ => h), fun b hb => ?_⟩
            rcases r3 b hb with e | e
            · exact .inl e
            · exact .inr (Nat.le_trans HC1.out.size e)
        · go_simp
          have hSa : (W.alloc (.cells #[I n] 2)).drew.cell? ⟨g, j * 6 + 2, none⟩ = some (.slice Ak nk0 ck) ∧ (W.alloc (.cells #[I n] 2)).drew.cell? ⟨g, j * 6 + 3, none⟩ = some (.slice Au nk0 cu) := ⟨cell_later _ c2, cell_later _ c3⟩
          refine hK _ _ (fun _ => hSa) ?_
          clear hK K hS0
          refine wpY_one (i := 7) rfl (by kernel_rfl) (fun K hK => ?_)
          go_simp
          have hSb : ((W.alloc (.cells #[I n] 2)).alloc (.cells #[I key] 2)).drew.cell? ⟨g, j * 6 + 2, none⟩ = some (.slice Ak nk0 ck) ∧ ((W.alloc (.cells #[I n] 2)).alloc (.cells #[I key] 2)).drew.cell? ⟨g, j * 6 + 3, none⟩ = some (.slice Au nk0 cu) := ⟨cell_later _ hSa.1, cell_later _ hSa.2⟩
          refine hK _ _ (fun _ => hSb) ?_
          clear hK K hSa
          refine wpY_one (i := 8) rfl (by kernel_rfl) (fun K hK => ?_)
          refine step_append (by rfl) _ _ _ (by rfl) E36 (by rfl) (((HKO.out.alloc _).alloc _).drew) (ad := ⟨W.heap.size + 1, 0, none⟩) (m := 1) (c := 1) (news := [I key]) (by rfl) (by rfl) (news1 (by simp)) (by simp [Value.oneCell']) (by omega) (by simp only [maxLen]; omega) (by omega) (by simp) ?_
          intro g1 cap1 w1 hap1
          have hSc : w1.cell? ⟨g, j * 6 + 2, none⟩ = some (.slice Ak nk0 ck) ∧ w1.cell? ⟨g, j * 6 + 3, none⟩ = some (.slice Au nk0 cu) := ⟨hap1.grew.cell hSb.1 HNK.out, hap1.grew.cell hSb.2 HNK.out⟩
          have hcb : w1.cell? ⟨W.heap.size, 0, none⟩ = some (I n) := hap1.grew.cell (cell_later (.cells #[I key] 2) (cell_new1 W (I n) 2)) (fun e => by have := (HKO.out.lt W.heap.size e.symm).2; omega)
          refine hK _ _ (fun _ => hSc) ?_
          clear hK K hSb
          have hWa : Chg Nof W ((W.alloc (.cells #[I n] 2)).alloc (.cells #[I key] 2)).drew := (chg_seq (chg_alloc _ _) (chg_alloc _ _)).drew
          have hWb : Chg Nof w1 w1 := Chg.refl _ _
          have hub := own_b hWa hap1 hWb HUO.out HNE.out
          refine wpY_one (i := 15) rfl (by kernel_rfl) (fun K hK => ?_)
          refine step_append (by rfl) _ _ _ (by rfl) E36 (by rfl) hub (ad := ⟨W.heap.size, 0, none⟩) (m := 1) (c := 1) (news := [I n]) (by rfl) (by rfl) (news1 hcb) (by simp [Value.oneCell']) (by omega) (by simp only [maxLen]; omega) (by omega) (by simp) ?_
          intro g2 cap2 w2 hap2
          have hS2 : w2.cell? ⟨g, j * 6 + 2, none⟩ = some (.slice Ak nk0 ck) ∧ w2.cell? ⟨g, j * 6 + 3, none⟩ = some (.slice Au nk0 cu) := ⟨hap2.grew.cell hSc.1 HNU.out, hap2.grew.cell hSc.2 HNU.out⟩
          refine hK _ _ (fun _ => hS2) ?_
          clear hK K hSc hcb
          have hmid := mid2 hWa hap1 hWb hap2 HUO.out HNE.out
          clear hap1 hap2 hWa hWb hub
          have hfk : w2.frozen? ⟨g, j * 6 + 2, none⟩ = false := by have := hmid.chg.block g HGL.out HNOT.out; simpa [World.frozen?, this] using HFZ.out (j * 6 + 2)
          have hfu : w2.frozen? ⟨g, j * 6 + 3, none⟩ = false := by have := hmid.chg.block g HGL.out HNOT.out; simpa [World.frozen?, this] using HFZ.out (j * 6 + 3)
          have hck : w2.cell? ⟨g, j * 6 + 2, none⟩ = some (.slice Ak nk0 ck) := hS2.1
          have hcu : w2.cell? ⟨g, j * 6 + 3, none⟩ = some (.slice Au nk0 cu) := hS2.2
          refine wpY_pure (i := 16) (v := ?_) rfl (by kernel_rfl) (fun _ _ _ h => h) (Or.inl ⟨rfl, ?_⟩) (fun _ => hS2) ?_
          rotate_left
          · intro W _
            go_simp
            try (with_reducible rfl)
          refine wpY_pure (i := 17) (v := ?_) rfl (by kernel_rfl) (fun _ _ _ h => h) (Or.inl ⟨rfl, ?_⟩) (fun _ => hS2) ?_
          rotate_left
          · intro W _
            go_simp
            try (with_reducible rfl)
          refine wpY_one (i := 18) rfl (by kernel_rfl) (fun K hK => ?_)
          go_simp
          refine hK _ _ (noz_no (by kernel_rfl)) ?_
          clear hK K
          refine wpY_pure (i := 19) (v := ?_) rfl (by kernel_rfl) (fun _ _ _ h => h) (Or.inl ⟨rfl, ?_⟩) (noz_no (by kernel_rfl)) ?_
          rotate_left
          · intro W _
            go_simp
            try (with_reducible rfl)
          refine wpY_pure (i := 20) (v := ?_) rfl (by kernel_rfl) (fun _ _ _ h => h) (Or.inl ⟨rfl, ?_⟩) (noz_no (by kernel_rfl)) ?_
          rotate_left
          · intro W _
            go_simp
            try (with_reducible rfl)
          refine wpY_one (i := 21) rfl (by kernel_rfl) (fun K hK => ?_)
          go_simp
          refine hK _ _ (noz_no (by kernel_rfl)) ?_
          clear hK K
          refine wpY_done (by kernel_rfl) ?_ _
          have HMID := Lib.hid hmid
          clear hfk hfu hck hcu hS2 hmid
          go_wp2
          go_ret
          have hm2 : Mid2 W w2 q.k q.u (.slice (some ⟨g1, 0, none⟩) (nk0 + 1) cap1) (.slice (some ⟨g2, 0, none⟩) (nk0 + 1) cap2) (nk0 + 1) (ints t.keys ++ [I key]) (ints t.under ++ [I n]) := by rw [HEK1.out, HEU1.out]; exact HMID.out
          obtain ⟨F', qs', r1, r2, r3⟩ := RmW.put2 (M := M) HMM.out HNL.out HTT.out HQ1.out (by rw [HNK0.out]) hm2
          refine ⟨F', _, qs', by rw [HP.out]; rfl, by rw [HP.out]; exact r1, HC1.out.trans r2 (fun _ h => h) (fun _ h _ => h), fun b hb => ?_⟩
          rcases r3 b hb with e | e
          · exact .inl e
          · exact .inr (Nat.le_trans HC1.out.size e)
  · have hd : (y != 0) = true := ne_t h0
    have HY := Lib.hid hy
    have e : rputF M r key n = (M, y) := by unfold rputF; rw [if_pos (by rw [hy]; exact h0), hy]
    have HE := Lib.hid e
    clear hy e h0
    go_enter Try.func40, Try.ntmps40
    go_wp2_with fail
    refine HWY.out.mono ?_
    rintro e w1 ⟨rfl, rfl⟩
    rw [HY.out]
    go_wp2
    go_ret
    exact ⟨F, lv, qs, by rw [HE.out]; rfl, by rw [HE.out]; exact HH.out, Chg.refl F _, fun b hb => .inl hb⟩
end Go.Proofs.Ytakpikoffbgjfaa
