import Derived.Test.YtakpikoffbgjfaaHN
namespace Go.Proofs.Ytakpikoffbgjfaa
open Go.RowKit Go.Maps

def putT (t : Th) (key n : Int) : Th := { t with keys := if key ∈ t.keys then t.keys else t.keys ++ [key], under := fun x => if x = key then n else t.under x }
def putF (M : HM) (r key n : Int) : HM × Int :=
  if whyF M r true ≠ 0 then (M, whyF M r true) else match M.things[(r - 1).toNat]? with
  | none => (M, 6)
  | some t => if key ∈ t.keys ∨ t.frame ≠ 0 then ({ M with things := M.things.set (r - 1).toNat (putT t key n) }, 0)
    else if 16 ≤ M.limit - M.used then ({ M with used := M.used + 16, things := M.things.set (r - 1).toNat (putT t key n) }, 0)
    else (M, 4)
set_option maxHeartbeats 4000000 in
set_option maxRecDepth 100000 in
theorem put_any (w : World) (F : Nat → Prop) (p : Nat) (M : HM) (tv fv : Value) (qs : List TQ) (r key n : Int) (h : MemW w F p M tv fv qs) (hs : M.frames.Pairwise (· < ·)) (hfl : M.frames.length ≤ 1000000000) (hth : M.things.length ≤ 1000000000) (hroom : Room M)
    (hkl : ∀ t ∈ M.things, t.keys.length ≤ 1000000000) (hk : (Lit.int .i64 key).wf = true) (hn : (Lit.int .i64 n).wf = true) :
    Calls Try.prog 14 #[P0 p, I r, I key, I n] w (MemRes w F p (putF M r key n).1 (I (putF M r key n).2)) := by
  have HAT := Lib.hid (at_any w F p M tv fv qs r true h hs hfl hth)
  have HH := Lib.hid h
  have HKW := Lib.hid hk
  have HRM := Lib.hid hroom
  clear h hs
  have HKEY := Lib.hid (Maps.keyOf_int_mk (P := Try.prog) (q := .i64) Try.underlying2 hk)
  have HVAL : Hid (plainElem (H := Unit) Try.prog 2 (I n) = some (.lit (.int .i64 n), [])) := Lib.hid (plainElem_int Try.underlying2 hn)
  obtain ⟨y, hy⟩ : ∃ y, whyF M r true = y := ⟨_, rfl⟩
  by_cases h0 : y = 0
  · subst h0
    have HY := Lib.hid hy
    obtain ⟨j, t, hr, htt⟩ := why_thing hy
    subst hr
    have HTT := Lib.hid htt
    have HTAB := Lib.hid (why_tab hy rfl htt)
    have HKL := Lib.hid (hkl t (List.mem_of_getElem? htt))
    have HPF : Hid (putF M ((j : Int) + 1) key n = if key ∈ t.keys ∨ t.frame ≠ 0 then ({ M with things := M.things.set j (putT t key n) }, 0)
        else if 16 ≤ M.limit - M.used then ({ M with used := M.used + 16, things := M.things.set j (putT t key n) }, 0) else (M, 4)) := by
      refine Lib.hid ?_
      unfold putF; rw [if_neg (by rw [hy]; simp), show ((j : Int) + 1 - 1).toNat = j by omega, htt]
    clear hy htt hkl
    go_enter Try.func14, Try.ntmps14
    go_wp2_with fail
    refine HAT.out.mono ?_
    rintro e w1 ⟨q, ptr, hW, rfl, _, hp⟩
    have HC1 : Hid (Chg F w w1) := Lib.hid (by rw [hW]; exact (Chg.refl F w).drewN q)
    have h1 : MemW w1 F p M tv fv qs := by rw [hW]; exact HH.out.drewN q
    clear hW
    rw [HY.out]
    obtain ⟨j', g, cap, ej, hj, rfl, rfl⟩ := hp HY.out
    obtain rfl : j = j' := by omega
    obtain ⟨g', cap', x, etv, hn1, hn2, hgl, hq, hT, _, k1, k2, k3, kf⟩ := h1.thing HTT.out
    cases etv
    obtain ⟨b, D, em, hFb, hown, hsz, hD⟩ := hT.table HTAB.out
    rw [em] at k2
    obtain ⟨v, ps, hrun, hv⟩ := hown.look_ok K2 Try.underlying62 (z := .int .i64 0) (by kernel_rfl) (plainElem_int Try.underlying2 (by decide)) HKEY.out
    obtain ⟨c, rfl, hc, hwc⟩ := plainElem_int_inv Try.underlying2 hv
    rw [(hD key HKW.out).1] at hrun
    have HOWN := Lib.hid hown
    have HSZ := Lib.hid hsz
    have HD := Lib.hid hD
    have HX := Lib.hid hq
    have HEM := Lib.hid em
    have HT := Lib.hid hT
    have H1 := Lib.hid h1
    have hgl2 := hgl
    clear hp ej hj hFb hown hsz hD hv hc hwc hq em hT h1
    by_cases hin : key ∈ t.keys
    · have HIN := Lib.hid hin
      rw [de_t hin] at hrun
      clear hin k1 k3 kf
      go_wp2_with (at_mapUpdate; refine wpList_mapUpdate_own _ rfl _ _ _ 62 rfl 2 2 K2 Try.underlying62 (plainElem Try.prog 2) b t.keys.length D rfl HOWN.out (by have := HKL.out; simp only [maxLen]; omega) _ _ (.int .i64 key) rfl rfl HKEY.out (.lit (.int .i64 n)) [] HVAL.out ?_; intro w3 hown3 hg3)
      go_ret
      have hP : putF M ((j : Int) + 1) key n = ({ M with things := M.things.set j (putT t key n) }, 0) := by rw [HPF.out, if_pos (.inl HIN.out)]
      obtain ⟨F', qs', m1, m2, m3⟩ := PutMid.done (PutMid.same H1.out HC1.out HTT.out HX.out) HTT.out HX.out HTAB.out HEM.out (key := key) (n := n) (by rw [if_pos HIN.out]) HSZ.out HKW.out HD.out hg3 hown3 HOWN.out.isMap (HOWN.out.tidy K2)
      have m4 : MemW w3 F' p (putF M ((j : Int) + 1) key n).1 (.slice (some ⟨g, 0, none⟩) M.things.length cap) fv qs' := by
        rw [hP]
        simpa [putT, HIN.out] using m1
      exact ⟨F', _, fv, qs', by rw [hP]; rfl, m4, m2, m3⟩
    · have HIN := Lib.hid hin
      rw [de_f hin] at hrun
      clear hin
      obtain ⟨Ak, ck, ek, hck1, hck2⟩ := (Rd.of_own HT.out.keys).form
      by_cases hf0 : t.frame = 0
      · by_cases hr16 : 16 ≤ M.limit - M.used
        · have hP : putF M ((j : Int) + 1) key n = ({ M with used := M.used + 16, things := M.things.set j (putT t key n) }, 0) := by rw [HPF.out, if_neg (by simp [HIN.out, hf0]), if_pos hr16]
          have HP := Lib.hid hP
          have HR16 := Lib.hid hr16
          have d16 : decide (16 ≤ M.limit - M.used) = true := de_t hr16
          clear hP hr16 k1
          rw [hf0] at k3
          clear hf0
          go_wp2_with fail
          refine (takes_any w1 F p M _ fv qs H1.out HRM.out 16 (by omega) (by omega)).mono ?_
          rintro e w2 ⟨rfl, hm2, hc2⟩
          rw [takeM, if_pos HR16.out] at hm2
          have HTT2 : Hid (({ M with used := M.used + 16 } : HM).things[j]? = some t) := HTT
          clear k2 k3 kf hrun HOWN HSZ HD HT hgl hgl2 hn1 hn2 ek
          obtain ⟨g', cap', x', etv, hn1, hn2, hgl, hq, hT, _, k1, k2, k3, kf⟩ := hm2.thing HTT2.out
          cases etv
          have hqx : x = x' := by have := HX.out; rw [hq] at this; cases this; rfl
          subst hqx
          obtain ⟨b2, D2, em, hFb, hown, hsz, hD⟩ := hT.table HTAB.out
          have hbb : b2 = b := by have := HEM.out; rw [em] at this; cases this; rfl
          subst hbb
          clear D
          obtain ⟨Ak, ck, ek, hck1, hck2⟩ := (Rd.of_own hT.keys).form
          have hko := hT.keys
          rw [em] at k2
          rw [ek] at k1 hko
          have HNG : Hid (some g ≠ (Value.slice Ak t.keys.length ck).ownBlock) := Lib.hid (fun e => by
            obtain ⟨c1, h1⟩ := own_type hm2.things (k := g) rfl
            obtain ⟨c2, h2⟩ := own_type hko e.symm
            exact ne_type h1 h2 (by decide) rfl)
          have HOWN := Lib.hid hown
          have HKO := Lib.hid hko
          have HSZ := Lib.hid hsz
          have HD := Lib.hid hD
          have H2 := Lib.hid hm2
          have HC2 : Hid (Chg F w w2) := Lib.hid (HC1.out.trans hc2 (fun _ h => h) (fun _ h _ => h))
          have HEK := Lib.hid ek
          have HXK := Lib.hid k2
          clear k3 hown hko hsz hD em hm2 hc2 hFb hq hT ek
          have fz1 := kf (j * 4 + 1)
          have HK1 := Lib.hid k1
          have HFZ := Lib.hid fz1
          clear kf k2
          go_upto_region 9 with (at_builtin; refine wpl_append1 rfl _ _ _ rfl E36 rfl (HKO.out.alloc _) (u := .slice (some ⟨w2.heap.size, 0, none⟩) 1 1) (m := 1) (news := [I key]) rfl (Rd.fresh w2 #[I key] 2 1 1 (by omega) (by omega)) rfl (by simp [Value.oneCell']) (by omega) (by have := HKL.out; omega) (by have := HKL.out; simp only [maxLen]; omega) (by simp) ?_; intro g4 cap4 w4 hap; have fz4 : w4.frozen? ⟨g, j * 4 + 1, none⟩ = false := (hap.grew.frozen_far ⟨g, j * 4 + 1, none⟩ (by simp; omega) HNG.out).trans ((World.frozen?_alloc_past (w := w2) _ g _ hgl).trans HFZ.out); have cz4 : w4.cell? ⟨g, j * 4 + 1, none⟩ = some (.slice Ak t.keys.length ck) := hap.grew.cell ((World.cell?_alloc_past (w := w2) _ g _ hgl).trans HK1.out) HNG.out)
          clear k1 fz1 cz4
          have hap : Ap 0 2 1 (w2.alloc (.cells #[I key] 2)) w4 (.slice Ak t.keys.length ck) (.slice (some ⟨g4, 0, none⟩) (t.keys.length + 1) cap4) (t.keys.length + 1) (ints t.keys ++ [I key]) := hap
          rw [← HEK.out] at hap
          have hmid := PutMid.append (M1 := { M with used := M.used + 16 }) H2.out HC2.out HTT2.out HX.out rfl hap
          have HMID := Lib.hid hmid
          clear hap fz4
          obtain ⟨W, hW⟩ : ∃ W, w4.setCell ⟨g, j * 4 + 1, none⟩ (.slice (some ⟨g4, 0, none⟩) (t.keys.length + 1) cap4) = W := ⟨_, rfl⟩
          rw [hW] at hmid HMID
          rw [hW]
          have k2 := hmid.mcell HX.out
          rw [HEM.out] at k2
          have HOWN3 := Lib.hid (hmid.map HTT2.out HX.out HEM.out HOWN.out)
          clear hmid hW
          go_wp2_with (at_mapUpdate; refine wpList_mapUpdate_own _ rfl _ _ _ 62 rfl 2 2 K2 Try.underlying62 (plainElem Try.prog 2) b2 t.keys.length D2 rfl HOWN3.out (by have := HKL.out; simp only [maxLen]; omega) _ _ (.int .i64 key) rfl rfl HKEY.out (.lit (.int .i64 n)) [] HVAL.out ?_; intro w3 hown3 hg3)
          go_ret
          obtain ⟨F', qs', m1, m2, m3⟩ := PutMid.done HMID.out HTT2.out HX.out HTAB.out HEM.out (key := key) (n := n) (by rw [if_neg HIN.out]) HSZ.out HKW.out HD.out hg3 hown3 HOWN.out.isMap (HOWN.out.tidy K2)
          have m4 : MemW w3 F' p (putF M ((j : Int) + 1) key n).1 (.slice (some ⟨g, 0, none⟩) M.things.length cap) fv qs' := by
            rw [HP.out]
            simpa [putT, HIN.out] using m1
          exact ⟨F', _, fv, qs', by rw [HP.out]; rfl, m4, m2, m3⟩
        · have hP : putF M ((j : Int) + 1) key n = (M, 4) := by rw [HPF.out, if_neg (by simp [HIN.out, hf0]), if_neg hr16]
          have HP := Lib.hid hP
          have HR16 := Lib.hid hr16
          have d16 : decide (16 ≤ M.limit - M.used) = false := de_f hr16
          clear hP hr16 k1
          rw [hf0] at k3
          clear hf0
          go_wp2_with fail
          refine (takes_any w1 F p M _ fv qs H1.out HRM.out 16 (by omega) (by omega)).mono ?_
          rintro e w2 ⟨rfl, hm2, hc2⟩
          rw [takeM, if_neg (by have := HR16.out; omega)] at hm2
          have H2 := Lib.hid hm2
          have HC2 := Lib.hid hc2
          clear hm2 hc2 k2 k3 kf hrun
          go_wp2
          go_ret
          exact ⟨F, _, fv, qs, by rw [HP.out]; rfl, by rw [HP.out]; exact H2.out, HC1.out.trans HC2.out (fun _ h => h) (fun _ h _ => h), fun b hb => .inl hb⟩
      · have hP : putF M ((j : Int) + 1) key n = ({ M with things := M.things.set j (putT t key n) }, 0) := by rw [HPF.out, if_pos (.inr hf0)]
        have HP := Lib.hid hP
        have df : (t.frame == 0) = false := by simpa using hf0
        have HTT2 := HTT
        have HC2 := HC1
        have H2 := H1
        clear hP hf0
        rw [ek] at k1
        have hko := HT.out.keys
        rw [ek] at hko
        have HNG : Hid (some g ≠ (Value.slice Ak t.keys.length ck).ownBlock) := Lib.hid (fun e => by
          obtain ⟨c1, h1⟩ := own_type H1.out.things (k := g) rfl
          obtain ⟨c2, h2⟩ := own_type hko e.symm
          exact ne_type h1 h2 (by decide) rfl)
        have HKO := Lib.hid hko
        have HEK := Lib.hid ek
        clear hko ek
        have fz1 := kf (j * 4 + 1)
        have HK1 := Lib.hid k1
        have HFZ := Lib.hid fz1
        clear kf
        go_upto_region 9 with (at_builtin; refine wpl_append1 rfl _ _ _ rfl E36 rfl (HKO.out.alloc _) (u := .slice (some ⟨w1.heap.size, 0, none⟩) 1 1) (m := 1) (news := [I key]) rfl (Rd.fresh w1 #[I key] 2 1 1 (by omega) (by omega)) rfl (by simp [Value.oneCell']) (by omega) (by have := HKL.out; omega) (by have := HKL.out; simp only [maxLen]; omega) (by simp) ?_; intro g4 cap4 w4 hap; have fz4 : w4.frozen? ⟨g, j * 4 + 1, none⟩ = false := (hap.grew.frozen_far ⟨g, j * 4 + 1, none⟩ (by simp; omega) HNG.out).trans ((World.frozen?_alloc_past (w := w1) _ g _ hgl).trans HFZ.out); have cz4 : w4.cell? ⟨g, j * 4 + 1, none⟩ = some (.slice Ak t.keys.length ck) := hap.grew.cell ((World.cell?_alloc_past (w := w1) _ g _ hgl).trans HK1.out) HNG.out)
        clear k1 k2 k3 hrun fz1 cz4
        have hap : Ap 0 2 1 (w1.alloc (.cells #[I key] 2)) w4 (.slice Ak t.keys.length ck) (.slice (some ⟨g4, 0, none⟩) (t.keys.length + 1) cap4) (t.keys.length + 1) (ints t.keys ++ [I key]) := hap
        rw [← HEK.out] at hap
        have hmid := PutMid.append (M1 := M) H2.out HC2.out HTT2.out HX.out rfl hap
        have HMID := Lib.hid hmid
        clear hap fz4
        obtain ⟨W, hW⟩ : ∃ W, w4.setCell ⟨g, j * 4 + 1, none⟩ (.slice (some ⟨g4, 0, none⟩) (t.keys.length + 1) cap4) = W := ⟨_, rfl⟩
        rw [hW] at hmid HMID
        rw [hW]
        have k2 := hmid.mcell HX.out
        rw [HEM.out] at k2
        have HOWN3 := Lib.hid (hmid.map HTT2.out HX.out HEM.out HOWN.out)
        clear hmid hW
        go_wp2_with (at_mapUpdate; refine wpList_mapUpdate_own _ rfl _ _ _ 62 rfl 2 2 K2 Try.underlying62 (plainElem Try.prog 2) b t.keys.length D rfl HOWN3.out (by have := HKL.out; simp only [maxLen]; omega) _ _ (.int .i64 key) rfl rfl HKEY.out (.lit (.int .i64 n)) [] HVAL.out ?_; intro w3 hown3 hg3)
        go_ret
        obtain ⟨F', qs', m1, m2, m3⟩ := PutMid.done HMID.out HTT2.out HX.out HTAB.out HEM.out (key := key) (n := n) (by rw [if_neg HIN.out]) HSZ.out HKW.out HD.out hg3 hown3 HOWN.out.isMap (HOWN.out.tidy K2)
        have m4 : MemW w3 F' p (putF M ((j : Int) + 1) key n).1 (.slice (some ⟨g, 0, none⟩) M.things.length cap) fv qs' := by
          rw [HP.out]
          simpa [putT, HIN.out] using m1
        exact ⟨F', _, fv, qs', by rw [HP.out]; rfl, m4, m2, m3⟩
  · have hd0 : (y != 0) = true := ne_t h0
    have HY := Lib.hid hy
    have hset : putF M r key n = (M, y) := by unfold putF; rw [if_pos (by rw [hy]; exact h0), hy]
    have HSZ := Lib.hid hset
    have HY0 := Lib.hid h0
    clear hy hset h0
    go_enter Try.func14, Try.ntmps14
    go_wp2_with fail
    refine HAT.out.mono ?_
    rintro e w1 ⟨q, ptr, rfl, rfl, hp, _⟩
    rw [hp (by rw [HY.out]; exact HY0.out), HY.out]
    clear hp
    go_wp2
    go_ret
    exact ⟨F, tv, fv, qs, by rw [HSZ.out]; rfl, by rw [HSZ.out]; exact HH.out.drewN q, (Chg.refl F w).drewN q, fun b hb => .inl hb⟩
end Go.Proofs.Ytakpikoffbgjfaa
