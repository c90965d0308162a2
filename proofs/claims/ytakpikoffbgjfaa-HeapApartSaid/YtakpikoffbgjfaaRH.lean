import Derived.Test.YtakpikoffbgjfaaRG
namespace Go.Proofs.Ytakpikoffbgjfaa
open Go.RowKit Go.Maps

theorem rget_ok {M : RM} {r i : Int} (h : (rgetF M r i).2 = 0) : ∃ (j k : Nat) (t : RT), r = j + 1 ∧ i = k ∧ M.l[j]? = some t ∧ k < t.vals.length := by
  unfold rgetF at h
  split at h
  · rename_i hw; exact absurd h hw
  · split at h
    · cases h
    · rename_i t ht
      split at h
      · cases h
      · rename_i hi
        obtain ⟨j, t2, hr, htt, _, _⟩ := whyR_thing (M := M) (r := r) (k := 0) (by rename_i hw _; omega)
        subst hr
        rw [show ((j : Int) + 1 - 1).toNat = j by omega] at ht
        exact ⟨j, i.toNat, t, rfl, by omega, ht, by omega⟩
def rsetF (M : RM) (r i : Int) (v : VV) : RM × Int :=
  if (rgetF M r i).2 ≠ 0 then (M, (rgetF M r i).2) else match M.l[(r - 1).toNat]? with
  | none => (M, 6)
  | some t => ({ M with l := M.l.set (r - 1).toNat { t with vals := t.vals.set i.toNat v } }, 0)
theorem rset_mem {W : World} {F : Nat → Prop} {p j g nl cap k cb nv cc : Nat} {M : RM} {qs : List RQ} {t : RT} {x : RQ} (v : VV) (h : RmW W F p M (.slice (some ⟨g, 0, none⟩) nl cap) qs) (hnl : M.l.length = nl)
    (ht : M.l[j]? = some t) (hq : qs[j]? = some x) (hx : x.v = .slice (some ⟨cb, 0, none⟩) nv cc) (hk : k < t.vals.length) :
    RmW (((W.setCell ⟨cb, k * 3, none⟩ (I v.n)).setCell ⟨cb, k * 3 + 1, none⟩ (.string v.s)).setCell ⟨cb, k * 3 + 2, none⟩ (I v.r)) F p { M with l := M.l.set j { t with vals := t.vals.set k v } } (.slice (some ⟨g, 0, none⟩) nl cap) qs := by
  subst hnl
  have hT := h.each j t x ht hq
  have hcb : (x.s 0).ownBlock = some cb := by show x.v.ownBlock = _; rw [hx]; rfl
  have hown := hT.v
  obtain ⟨A, c2, e2, _⟩ := (Rd.of_own hown).form
  have hnv : nv = t.vals.length := by rw [hx] at e2; cases e2; rfl
  subst hnv
  rw [hx] at hown
  have hs := ((((hown.stored (k * 3) (I v.n)).1).stored (k * 3 + 1) (.string v.s)).1.stored (k * 3 + 2) (I v.r)).1
  rw [vvs_set _ _ _ hk] at hs
  have hbk : ∀ b, b ≠ cb → (((W.setCell ⟨cb, k * 3, none⟩ (I v.n)).setCell ⟨cb, k * 3 + 1, none⟩ (.string v.s)).setCell ⟨cb, k * 3 + 2, none⟩ (I v.r)).heap[b]? = W.heap[b]? := fun b hb =>
    (Below.heap_setCell _ _ _ _ hb).trans ((Below.heap_setCell _ _ _ _ hb).trans (Below.heap_setCell _ _ _ _ hb))
  obtain ⟨cur, hcur⟩ := own_type hT.v (k := cb) hcb
  obtain ⟨gc, hgc⟩ := own_type h.row (k := g) rfl
  have hT' : RtW (((W.setCell ⟨cb, k * 3, none⟩ (I v.n)).setCell ⟨cb, k * 3 + 1, none⟩ (.string v.s)).setCell ⟨cb, k * 3 + 2, none⟩ (I v.r)) F { t with vals := t.vals.set k v } x := by
    refine ⟨?_, own_kept hT.k (fun b hb => hbk b (fun e => by subst e; exact h.apart j j 0 1 x x hq hq (.inr (by decide)) _ hcb hb)), own_kept hT.u (fun b hb => hbk b (fun e => by subst e; exact h.apart j j 0 2 x x hq hq (.inr (by decide)) _ hcb hb)), hT.sF⟩
    rw [hx]
    simpa using hs
  have hrow : (((W.setCell ⟨cb, k * 3, none⟩ (I v.n)).setCell ⟨cb, k * 3 + 1, none⟩ (.string v.s)).setCell ⟨cb, k * 3 + 2, none⟩ (I v.r)).ownsRow 0 77 6 (.slice (some ⟨g, 0, none⟩) M.l.length cap) M.l.length (rcs (M.l.set j { t with vals := t.vals.set k v }) (qs.set j x)) := by
    have h1 := rcs_set M.l qs j t { t with vals := t.vals.set k v } x x ht hq 0 (I t.kind) (by omega) rfl
    have h2 : (rcs M.l qs).set (j * 6 + 0) (I t.kind) = rcs M.l qs := set_same _ _ _ (rcs_at M.l qs j t x ht hq 0 (by omega))
    rw [← h1, h2]
    exact own_kept h.row (fun b hb => hbk b (by cases hb; exact ne_type hgc hcur (by decide)))
  have := RmW.change (w' := ((W.setCell ⟨cb, k * 3, none⟩ (I v.n)).setCell ⟨cb, k * 3 + 1, none⟩ (.string v.s)).setCell ⟨cb, k * 3 + 2, none⟩ (I v.r)) (F' := F) h ht hq hT' (fun b _ _ hn => hbk b (fun e => hn 0 (e ▸ hcb))) hrow (fun _ h => h) (fun b hb => by simpa using h.lt b hb) (fun a b hb => .inl hb) (fun a b hab b' e => h.apart j j a b x x hq hq (.inr hab) b' e)
  rwa [set_same qs j x hq] at this
set_option maxHeartbeats 8000000 in
set_option maxRecDepth 100000 in
theorem rset_any (w : World) (F : Nat → Prop) (p : Nat) (M : RM) (lv : Value) (qs : List RQ) (r i : Int) (v : VV) (h : RmW w F p M lv qs) (hll : M.l.length ≤ 1000000000) :
    Calls Try.prog 38 #[P0 p, I r, I i, .agg #[I v.n, .string v.s, I v.r]] w (RmRes w F p (rsetF M r i v).1 (I (rsetF M r i v).2)) := by
  have hb0 := below_alloc w (.cells #[I v.n, .string v.s, I v.r] 30)
  have HG := Lib.hid (rget_any (w.alloc (.cells #[I v.n, .string v.s, I v.r] 30)) F p M lv qs r i (h.below hb0) hll)
  have HH := Lib.hid (h.below hb0)
  have HL := Lib.hid h.lt
  have HA := Lib.hid (Arr.new w 30 #[I v.n, .string v.s, I v.r])
  have HB := Lib.hid hb0
  clear h hb0
  obtain ⟨y, hy⟩ : ∃ y, (rgetF M r i).2 = y := ⟨_, rfl⟩
  by_cases h0 : y = 0
  · subst h0
    have HY := Lib.hid hy
    obtain ⟨j, k, t, rfl, rfl, htt, hk⟩ := rget_ok hy
    have HTT := Lib.hid htt
    have HK := Lib.hid hk
    have HS : Hid (rsetF M ((j : Int) + 1) k v = ({ M with l := M.l.set j { t with vals := t.vals.set k v } }, 0)) := by
      refine Lib.hid ?_
      unfold rsetF; rw [if_neg (by rw [hy]; simp), show ((j : Int) + 1 - 1).toNat = j by omega, htt]; rfl
    have hjl : j < M.l.length := (List.getElem?_eq_some_iff.1 htt).1
    clear hy htt hk
    obtain ⟨W, hW⟩ : ∃ W, w.alloc (.cells #[.int .i64 v.n, .string v.s, .int .i64 v.r] 30) = W := ⟨_, rfl⟩
    rw [hW] at HG HH HA HB
    go_enter Try.func38, Try.ntmps38
    go_wp2_with fail
    refine HG.out.mono ?_
    rintro e w2 ⟨rfl, hB2⟩
    rw [HY.out]
    obtain ⟨X, hX⟩ : ∃ X, (rgetF M ((j : Int) + 1) k).1 = X := ⟨_, rfl⟩
    rw [hX]
    have HB3 : Hid (Below W.heap.size W (w2.alloc (.cells #[I X.n, .string X.s, I X.r] 30))) := Lib.hid (hB2.alloc hB2.size _)
    have HM3 := Lib.hid (HH.out.below HB3.out)
    have HA3 := Lib.hid (HA.out.below HB3.out)
    have hws : w.heap.size < W.heap.size := HA.out.lt
    clear hB2 hX hW
    go_upto_region 3 with fail
    obtain ⟨W3, hW3⟩ : ∃ W3, w2.alloc (.cells #[.int .i64 X.n, .string X.s, .int .i64 X.r] 30) = W3 := ⟨_, rfl⟩
    rw [hW3] at HB3 HM3 HA3
    rw [hW3]
    clear hW3
    obtain ⟨g, cap, x, etv, hn1, hn2, hgl, hq, hT, _, k1, _, _, _, _, _⟩ := HM3.out.thing HTT.out
    obtain ⟨nl, hnl⟩ : ∃ n, M.l.length = n := ⟨_, rfl⟩
    rw [hnl] at etv hll hjl hn1
    subst etv
    obtain ⟨nv, hnv⟩ : ∃ n, t.vals.length = n := ⟨_, rfl⟩
    have hco := hT.v
    have hkn : k < nv := by rw [← hnv]; exact HK.out
    rw [hnv] at hco
    obtain ⟨cb, cc, ec, hc1, hc2⟩ := hco.form (by omega)
    obtain ⟨A4, c4, e4, h4, h5⟩ := (Rd.of_own hco).form
    rw [ec] at e4
    cases e4
    rw [ec] at k1
    obtain ⟨c0, _, _, _, _⟩ := HM3.out.cell
    have x0 : W3.cell? ⟨w.heap.size, 0, none⟩ = some (I v.n) := HA3.out.cell 0
    have x1 : W3.cell? ⟨w.heap.size, 1, none⟩ = some (.string v.s) := HA3.out.cell 1
    have x2 : W3.cell? ⟨w.heap.size, 2, none⟩ = some (I v.r) := HA3.out.cell 2
    have hjl2 : (j : Int) < nl := by omega
    have hkn2 : (k : Int) < nv := by omega
    have hwi : IntKind.i64.wrap (j : Int) = j := IntWalk.i64_in _ ⟨by omega, by omega⟩
    obtain ⟨u, hu⟩ : ∃ u, t.vals[k]? = some u := ⟨_, List.getElem?_eq_getElem HK.out⟩
    obtain ⟨a0, a1, a2⟩ := vvs_at t.vals k u hu
    have cl : ∀ (n : Nat) (u : Value), (vvs t.vals)[n]? = some u → W3.cell? ⟨cb, n, none⟩ = some u := fun n u hu => by
      have := hco.cells (g := cb) (by rw [ec]; rfl) n u hu
      rwa [add_plain', Nat.zero_add] at this
    have b0 := cl _ _ a0
    have b1 := cl _ _ a1
    have b2 := cl _ _ a2
    obtain ⟨cur, hcur⟩ := own_type hco (k := cb) (by rw [ec]; rfl)
    have fz : ∀ n, W3.frozen? ⟨cb, n, none⟩ = false := fun n => by simp [World.frozen?, hcur]
    have g0 := fz (k * 3)
    have g1 := fz (k * 3 + 1)
    have g2 := fz (k * 3 + 2)
    have HQ := Lib.hid hq
    have HEC := Lib.hid ec
    have HNL := Lib.hid hnl
    have hFcb : Hid (F cb) := Lib.hid (hT.sF 0 cb (by show x.v.ownBlock = _; rw [ec]; rfl))
    clear hq hT hco ec cl a0 a1 a2 hu hcur fz hnl hnv
    refine wp_region_z (fun w' => w'.cell? ⟨p, 0, none⟩ = some (.slice (some ⟨g, 0, none⟩) nl cap) ∧ w'.cell? ⟨g, j * 6 + 1, none⟩ = some (.slice (some ⟨cb, 0, none⟩) nv cc) ∧ w'.cell? ⟨w.heap.size, 0, none⟩ = some (I v.n) ∧ w'.cell? ⟨w.heap.size, 1, none⟩ = some (.string v.s) ∧ w'.cell? ⟨w.heap.size, 2, none⟩ = some (I v.r)) 12 (by kernel_rfl) ?_
    have hS0 : W3.drew.cell? ⟨p, 0, none⟩ = some (.slice (some ⟨g, 0, none⟩) nl cap) ∧ W3.drew.cell? ⟨g, j * 6 + 1, none⟩ = some (.slice (some ⟨cb, 0, none⟩) nv cc) ∧ W3.drew.cell? ⟨w.heap.size, 0, none⟩ = some (I v.n) ∧ W3.drew.cell? ⟨w.heap.size, 1, none⟩ = some (.string v.s) ∧ W3.drew.cell? ⟨w.heap.size, 2, none⟩ = some (I v.r) := ⟨c0, k1, x0, x1, x2⟩
    refine wpZ_take (i := 0) (v := ?_) rfl (by kernel_rfl) (fun _ _ _ h => h) (Or.inl ⟨rfl, ?_⟩) hS0 ?_
    rotate_left
    · rintro W ⟨s0, s1, s2, s3, s4⟩
      go_simp
      try (with_reducible rfl)
    refine wpZ_take (i := 1) (v := ?_) rfl (by kernel_rfl) (fun _ _ _ h => h) (Or.inl ⟨rfl, ?_⟩) hS0 ?_
    rotate_left
    · rintro W ⟨s0, s1, s2, s3, s4⟩
      go_simp
      try (with_reducible rfl)
    refine wpZ_take (i := 2) (v := ?_) rfl (by kernel_rfl) (fun _ _ _ h => h) (Or.inl ⟨rfl, ?_⟩) hS0 ?_
    rotate_left
    · rintro W ⟨s0, s1, s2, s3, s4⟩
      go_simp
      try (with_reducible rfl)
    refine wpZ_take (i := 3) (v := ?_) rfl (by kernel_rfl) (fun _ _ _ h => h) (Or.inl ⟨rfl, ?_⟩) hS0 ?_
    rotate_left
    · rintro W ⟨s0, s1, s2, s3, s4⟩
      go_simp
      try (with_reducible rfl)
    refine wpZ_take (i := 4) (v := ?_) rfl (by kernel_rfl) (fun _ _ _ h => h) (Or.inl ⟨rfl, ?_⟩) hS0 ?_
    rotate_left
    · rintro W ⟨s0, s1, s2, s3, s4⟩
      go_simp
      try (with_reducible rfl)
    refine wpZ_take (i := 5) (v := ?_) rfl (by kernel_rfl) (fun _ _ _ h => h) (Or.inl ⟨rfl, ?_⟩) hS0 ?_
    rotate_left
    · rintro W ⟨s0, s1, s2, s3, s4⟩
      go_simp
      try (with_reducible rfl)
    refine wpZ_take (i := 6) (v := ?_) rfl (by kernel_rfl) (fun _ _ _ h => h) (Or.inl ⟨rfl, ?_⟩) hS0 ?_
    rotate_left
    · rintro W ⟨s0, s1, s2, s3, s4⟩
      go_simp
      try (with_reducible rfl)
    refine wpZ_take (i := 7) (v := ?_) rfl (by kernel_rfl) (fun _ _ _ h => h) (Or.inl ⟨rfl, ?_⟩) hS0 ?_
    rotate_left
    · rintro W ⟨s0, s1, s2, s3, s4⟩
      go_simp
      try (with_reducible rfl)
    refine wpZ_take (i := 8) (v := ?_) rfl (by kernel_rfl) (fun _ _ _ h => h) (Or.inl ⟨rfl, ?_⟩) hS0 ?_
    rotate_left
    · rintro W ⟨s0, s1, s2, s3, s4⟩
      go_simp
      try (with_reducible rfl)
    refine wpZ_take (i := 9) (v := ?_) rfl (by kernel_rfl) (fun _ _ _ h => h) (Or.inl ⟨rfl, ?_⟩) hS0 ?_
    rotate_left
    · rintro W ⟨s0, s1, s2, s3, s4⟩
      go_simp
      try (with_reducible rfl)
    refine wpZ_take (i := 10) (v := ?_) rfl (by kernel_rfl) (fun _ _ _ h => h) (Or.inl ⟨rfl, ?_⟩) hS0 ?_
    rotate_left
    · rintro W ⟨s0, s1, s2, s3, s4⟩
      go_simp
      try (with_reducible rfl)
    refine wpZ_take (i := 11) (v := ?_) rfl (by kernel_rfl) (fun _ _ _ h => h) (Or.inl ⟨rfl, ?_⟩) hS0 ?_
    rotate_left
    · rintro W ⟨s0, s1, s2, s3, s4⟩
      go_simp
      try (with_reducible rfl)
    clear hS0
    refine wpZ_one (i := 12) rfl (by kernel_rfl) (fun K hK => ?_)
    go_simp
    refine hK _ _ (fun h => absurd rfl h) ?_
    clear hK K
    refine wpZ_done (by kernel_rfl) ?_ _
    go_wp2
    go_ret
    have hmem := rset_mem v HM3.out.drew HNL.out HTT.out HQ.out HEC.out HK.out
    have hC : Chg F w W3.drew := (Chg.trans (F := fun _ => False) (G := fun _ => False) ⟨HB.out.os, HB.out.tape, HB.out.output, HB.out.size, fun k hk _ => HB.out.block k hk⟩ ⟨HB3.out.os, HB3.out.tape, HB3.out.output, HB3.out.size, fun k hk _ => HB3.out.block k hk⟩ (fun _ h => h.elim) (fun _ h _ => h.elim)).drew
    exact ⟨F, _, qs, by rw [HS.out]; rfl, by rw [HS.out]; exact hmem, ((hC.set (a := ⟨cb, _, none⟩) hFcb.out _).set (a := ⟨cb, _, none⟩) hFcb.out _).set (a := ⟨cb, _, none⟩) hFcb.out _, fun b hb => .inl hb⟩
  · have hd : (y == 0) = false := by simpa using h0
    have hset : rsetF M r i v = (M, y) := by unfold rsetF; rw [if_pos (by rw [hy]; exact h0), hy]
    have HS := Lib.hid hset
    have HY := Lib.hid hy
    clear hy hset h0
    obtain ⟨W, hW⟩ : ∃ W, w.alloc (.cells #[.int .i64 v.n, .string v.s, .int .i64 v.r] 30) = W := ⟨_, rfl⟩
    rw [hW] at HG HH HA HB
    go_enter Try.func38, Try.ntmps38
    go_wp2_with fail
    refine HG.out.mono ?_
    rintro e w2 ⟨rfl, hB2⟩
    rw [HY.out]
    obtain ⟨X, hX⟩ : ∃ X, (rgetF M r i).1 = X := ⟨_, rfl⟩
    rw [hX]
    have HB3 : Hid (Below W.heap.size W (w2.alloc (.cells #[I X.n, .string X.s, I X.r] 30))) := Lib.hid (hB2.alloc hB2.size _)
    clear hB2 hX hW
    go_wp2
    go_ret
    have hC : Chg F w _ := Chg.trans (F := fun _ => False) (G := fun _ => False) ⟨HB.out.os, HB.out.tape, HB.out.output, HB.out.size, fun k hk _ => HB.out.block k hk⟩ ⟨HB3.out.os, HB3.out.tape, HB3.out.output, HB3.out.size, fun k hk _ => HB3.out.block k hk⟩ (fun _ h => h.elim) (fun _ h _ => h.elim)
    exact ⟨F, lv, qs, by rw [HS.out]; rfl, by rw [HS.out]; exact HH.out.below HB3.out, hC, fun b hb => .inl hb⟩
end Go.Proofs.Ytakpikoffbgjfaa
