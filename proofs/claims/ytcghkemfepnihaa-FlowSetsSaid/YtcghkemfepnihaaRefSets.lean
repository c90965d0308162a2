import Derived.Test.YtcghkemfepnihaaPut
import Derived.Test.YtcghkemfepnihaaRefReach
namespace Go.Proofs.Ytcghkemfepnihaa
open Go.RowKit

theorem Try.info26 : (Try.prog.info? 26).map (fun i => (i.zero, i.size, i.bytes)) = some (some (.slice none 0 0), 1, 24) := by kernel_rfl
/-- A block of slices that are read; none lies in the block itself. -/
structure RRows (w : World) (g : Nat) (vs : List Value) (xss : List (List Int)) : Prop where
  arr : Arr w g 26 vs
  len : vs.length = xss.length
  rd : ∀ i, i < xss.length → Rd w (vs.getD i nilS) (xss.getD i []).length (ints (xss.getD i []))
  apart : ∀ i, i < xss.length → (vs.getD i nilS).ownBlock ≠ some g
theorem RRows.start (w : World) (n : Nat) : RRows (w.alloc (.cells (madeCells #[nilS] n) 26)) w.heap.size (List.replicate n nilS) (List.replicate n []) :=
  ⟨Arr.made w 26 n nilS, by simp, fun i _ => by rw [getD_replicate, getD_replicate]; exact Rd.nil _, fun i _ => by rw [getD_replicate]; intro h; cases h⟩
theorem RRows.below {w w' : World} {g : Nat} {vs : List Value} {xss : List (List Int)} (h : RRows w g vs xss) (hb : Below w.heap.size w w') : RRows w' g vs xss :=
  ⟨h.arr.below hb, h.len, fun i hi => (h.rd i hi).below hb, h.apart⟩
theorem RRows.put {w : World} {g i : Nat} {vs : List Value} {xss : List (List Int)} {r : Value} {l : List Int} (h : RRows w g vs xss) (hi : i < xss.length) (hr : Rd w r l.length (ints l)) (ha : r.ownBlock ≠ some g) : RRows (w.setCell ⟨g, i, none⟩ r) g (vs.set i r) (xss.set i l) := by
  have hiv : i < vs.length := by rw [h.len]; exact hi
  refine ⟨h.arr.set i r, by simp [h.len], fun j hj => ?_, fun j hj => ?_⟩
  · rw [getD_set' _ _ _ _ _ hiv, getD_set' _ _ _ _ _ hi]
    split
    · exact rd_setOther hr ha _
    · exact rd_setOther (h.rd j (by simpa using hj)) (h.apart j (by simpa using hj)) _
  · rw [getD_set' _ _ _ _ _ hiv]
    split
    · exact ha
    · exact h.apart j (by simpa using hj)
theorem RRows.rdRows {w : World} {g : Nat} {vs : List Value} {xss : List (List Int)} (h : RRows w g vs xss) (hm : xss.length ≤ 9223372036854775807) : RdRows w (.slice (some ⟨g, 0, none⟩) xss.length xss.length) xss :=
  ⟨vs, h.arr.rd _ _ (Nat.le_refl _) hm, h.len, h.rd⟩
/-- A slice of truths does not lie in a block of slices. -/
theorem RRows.notBools {w : World} {g : Nat} {vs : List Value} {xss : List (List Int)} (h : RRows w g vs xss) {b off : Nat} {x : Bool} (hc : w.cell? ⟨b, off, none⟩ = some (.bool x)) : b ≠ g := by
  rintro rfl
  rw [h.arr.cell] at hc
  have hl := (List.getElem?_eq_some_iff.1 hc).1
  obtain ⟨A, cap, e, _⟩ := (h.rd off (by rw [← h.len]; exact hl)).form
  rw [List.getD_eq_getElem?_getD, hc] at e
  cases e
theorem KeepG.later {w w' w'' : World} {g0 : Nat} (h : KeepG w g0 w') (hb : Below w'.heap.size w' w'') : KeepG w g0 w'' :=
  ⟨Nat.le_trans h.size hb.size, fun k hk hne => (hb.block k (Nat.lt_of_lt_of_le hk h.size)).trans (h.block k hk hne)⟩
theorem fit_one {n : Int} {E : List (Int × Int)} {S : List Int} {x : Int} (h : fitF n E S = 0) (hx : x ∈ S) : fitF n E [x] = 0 := by
  unfold fitF at h ⊢
  split at h
  · cases h
  · rename_i h1
    rw [if_neg h1]
    split at h
    · cases h
    · rename_i h2
      split at h
      · cases h
      · rename_i h3
        rw [if_neg h2, if_neg (by intro h4; apply h3; simp only [badL, List.any_cons, List.any_nil, Bool.or_false] at h4; exact List.any_eq_true.2 ⟨x, hx, h4⟩)]
        exact h
def firsts (D : List (Int × Int)) : List Int := D.map Prod.fst
theorem firsts_length (D : List (Int × Int)) : (firsts D).length = D.length := by simp [firsts]
theorem firsts_snoc {D : List (Int × Int)} {k : Nat} (h : k < D.length) : firsts (D.take (k + 1)) = firsts (D.take k) ++ [D[k].1] := by
  rw [firsts, List.take_succ_eq_append_getElem h, List.map_append]; rfl
def SetsRes (w : World) (n : Int) (E D : List (Int × Int)) (e : Ending) (w' : World) : Prop :=
  ∃ r outs, e = .returned (.tuple #[r, I (fitF n E (firsts D))]) ∧ RdRows w' r outs ∧ Below w.heap.size w w' ∧ (fitF n E (firsts D) ≠ 0 → outs = []) ∧ (∀ m : Nat, n = m → fitF n E (firsts D) = 0 → SetsOut E D m outs)

set_option maxHeartbeats 8000000 in
set_option maxRecDepth 100000 in
theorem refsets_any (w : World) (n : Int) (v1 v2 : Value) (E D : List (Int × Int)) (h1 : Rd w v1 E.length (pairs E)) (h2 : Rd w v2 D.length (pairs D)) (hD : D.length ≤ 1000) :
    Calls Try.prog 21 #[I n, v1, v2] w (SetsRes w n E D) := by
  obtain ⟨A2, c2, rfl, hm2⟩ := h2.form
  have HX := Lib.hid h1
  have HY := Lib.hid h2
  have H0 := Lib.hid (own_start w 3 1)
  clear h1 h2
  go_enter Try.func21, Try.ntmps21
  go_wp2
  go_loopw [8, 9] (fun r i wr => ∃ k : Nat, k ≤ D.length ∧ i = .int .i64 k ∧ wr.ownsRow w.heap.size 3 1 r k (ints (firsts (D.take k))) ∧ Below w.heap.size w wr) (fun _ i _ => D.length - (intOf i).toNat)
  case atStart => exact ⟨0, Nat.zero_le _, rfl, by simpa [ints, firsts] using H0.out, below_alloc _ _⟩
  case round =>
    clear H0
    obtain ⟨k, hk, rfl, hown, hB⟩ := hrel
    have HO := Lib.hid hown
    have hsz := hB.size
    clear hown
    by_cases hlt : k < D.length
    · obtain ⟨b2, o2, _, e2, _, hb2, g2⟩ := HY.out.elem (by simp; omega)
      cases e2
      obtain ⟨f0, f1⟩ := edge_cells hB hb2 g2 k hlt
      have HS := Lib.hid (firsts_snoc hlt)
      obtain ⟨x, hx⟩ : ∃ x, D[k].1 = x := ⟨_, rfl⟩
      rw [hx] at f0
      have HXX := Lib.hid hx
      clear g2 f1 hx
      go_wp2_with (at_builtin; refine wpl_append1 rfl _ _ _ rfl E26 rfl (HO.out.alloc _) (u := .slice (some ⟨wr.heap.size, 0, none⟩) 1 1) (m := 1) (news := [I x]) rfl (Rd.fresh wr #[I x] 3 1 1 (by omega) (by omega)) rfl (by simp [Value.oneCell']) (by omega) (by omega) (by simp only [maxLen]; omega) (by simp; omega) ?_; intro g' cap' w2 hap)
      go_roundw
      case rel =>
        have hb2 : Below w.heap.size w w2 := hap.below (hB.alloc hsz _) (HO.out.alloc _) (Nat.le_refl _) (by simp; omega)
        exact ⟨k + 1, by omega, by go_num, by rw [HS.out, HXX.out, ints_append]; exact hap.own, hb2⟩
      case measure => simp [intOf]; omega
    · have hke : k = D.length := by omega
      subst hke
      have HR : Hid (Rd wr u8 (firsts D).length (ints (firsts D))) := Lib.hid (by have := Rd.of_own HO.out; rwa [List.take_length, ← firsts_length] at this)
      have HX1 := Lib.hid (HX.out.below hB)
      clear HO
      by_cases hf : fitF n E (firsts D) = 0
      · have hf' : (fitF n E (firsts D) != 0) = false := ne_f hf
        obtain ⟨m, rfl, hm, F⟩ := fits_of hf
        have HF := Lib.hid F
        have HE := Lib.hid hf
        have hmk := run_make_row' (P := Try.prog) 42 26 (.slice none 0 0) 24 Try.underlying42 Try.info26 rfl .i64 .i64 m (by omega) (by omega)
        clear hf F
        go_wp2_with (go_at_call 26; refine (fit26_any _ _ _ _ E (firsts D) HX1.out HR.out).mono ?_; rintro e w' ⟨rfl, rfl⟩)
        clear hmk
        obtain ⟨g0, hg0⟩ : ∃ g0, wr.heap.size = g0 := ⟨_, rfl⟩
        have R0 := RRows.start wr m
        rw [hg0] at R0 ⊢
        have hlow : w.heap.size ≤ g0 := by omega
        have hB0 : Below w.heap.size w (wr.alloc (.cells (madeCells #[nilS] m) 26)) := hB.alloc hsz _
        clear hg0 HR HX1 hB hsz
        go_loopw [12] (fun i wo => ∃ (k : Nat) (vs : List Value) (outs : List (List Int)), k ≤ D.length ∧ i = .int .i64 k ∧ RRows wo g0 vs outs ∧ RefMid E D m k 0 outs ∧ Below w.heap.size w wo) (fun i _ => D.length - (intOf i).toNat)
        case atStart => exact ⟨0, _, _, Nat.zero_le _, rfl, R0, refMid_start E D m, hB0⟩
        case round =>
          clear R0 hB0
          obtain ⟨k, vs, outs, hk2, rfl, hR, hM, hB⟩ := hrel
          have HRR := Lib.hid hR
          have HM := Lib.hid hM
          clear hR hM
          by_cases hlt : k < D.length
          · obtain ⟨b2, o2, _, e2, _, hb2, g2⟩ := HY.out.elem (by simp; omega)
            cases e2
            obtain ⟨f0, f1⟩ := edge_cells hB hb2 g2 k hlt
            have HG2 := Lib.hid g2
            obtain ⟨x, hx⟩ : ∃ x, D[k].1 = x := ⟨_, rfl⟩
            obtain ⟨s, hs⟩ : ∃ s, D[k].2 = s := ⟨_, rfl⟩
            rw [hx] at f0
            have HDK : Hid (D[k]? = some (x, s)) := Lib.hid (by rw [List.getElem?_eq_getElem hlt, ← hx, ← hs])
            have HS := Lib.hid hs
            have hfx := fit_one HE.out (x := x) (by rw [firsts, ← hx]; exact List.mem_map.2 ⟨_, List.getElem_mem hlt, rfl⟩)
            have HFX := Lib.hid hfx
            have HX2 := Lib.hid ((HX.out.below hB).alloc (.cells #[I x] 3))
            have HS2 : Hid (Rd (wr.alloc (.cells #[I x] 3)) (.slice (some ⟨wr.heap.size, 0, none⟩) 1 1) [x].length (ints [x])) := Lib.hid (by simpa [ints] using Rd.fresh wr #[I x] 3 1 1 (by omega) (by omega))
            clear g2 f1 hx hs hfx
            go_wp2_with (go_at_call 13; refine (refreach_any _ m _ _ E [x] HX2.out HS2.out).mono ?_; rintro e w3 ⟨rm, om, rfl, hrm, hB3, hm0, hm1⟩)
            obtain ⟨Am, cm, rfl, hmm⟩ := hrm.form
            have hmo := hm1 m rfl HFX.out
            rw [turn_false] at hmo
            have HOL : Hid (om.length = m) := Lib.hid hmo.len
            have HMO := Lib.hid hmo
            have HRM := Lib.hid hrm
            have HR3 := Lib.hid ((HRR.out.below (below_alloc _ _)).below hB3)
            have hB4 : Below w.heap.size w w3 := below_step (hB.alloc hB.size _) hB3 (by simp; have := hB.size; omega)
            clear hm0 hm1 hmo hrm HRR HX2 HS2 HFX hB f0
            go_loopw [15] (fun i wi => ∃ (j : Nat) (vs : List Value) (outs : List (List Int)), j ≤ m ∧ i = .int .i64 j ∧ RRows wi g0 vs outs ∧ RefMid E D m k j outs ∧ KeepG w3 g0 wi ∧ Below w.heap.size w wi) (fun i _ => m - (intOf i).toNat)
            case atStart => exact ⟨0, vs, outs, Nat.zero_le _, rfl, HR3.out, HM.out, KeepG.refl _ _, hB4⟩
            case round =>
              clear HM hB4 hB3
              obtain ⟨j, vs2, outs2, hj, rfl, hR, hM, hK, hB⟩ := hrel
              have HRR := Lib.hid hR
              have HM := Lib.hid hM
              have HK := Lib.hid hK
              have hol2 := hM.len
              clear hR hM hK
              by_cases hjm : j < m
              · obtain ⟨b3, o3, _, e3, _, hb3, g3⟩ := HRM.out.elem (by rw [bools_length, HOL.out]; omega)
                cases e3
                have hjl : j < om.length := by rw [HOL.out]; exact hjm
                have hjl' : (j : Int) < om.length := by omega
                have hne := HR3.out.notBools (g3 j _ (bools_at om j hjl))
                have f2 : wr.cell? ⟨b3, o3 + j, none⟩ = some (.bool (om[j]'hjl)) := HK.out.cell (g3 j _ (bools_at om j hjl)) hne
                have hat : (om[j]'hjl = true ↔ Rch E [x] j) := by
                  rw [← HMO.out.at_ j hjm, List.getD_eq_getElem?_getD, List.getElem?_eq_getElem hjl]; rfl
                obtain ⟨o, ho⟩ : ∃ o, om[j]'hjl = o := ⟨_, rfl⟩
                rw [ho] at f2 hat
                have HAT := Lib.hid hat
                clear g3 hat ho hne
                cases o with
                | false =>
                  go_wp2
                  go_roundw
                  case rel => exact ⟨j + 1, vs2, outs2, by omega, by go_num, HRR.out, refMid_miss HM.out HDK.out (fun h => by cases HAT.out.2 h), HK.out, hB⟩
                  case measure => simp [intOf]; omega
                | true =>
                  have hjo : j < outs2.length := by omega
                  have hjv : j < vs2.length := by rw [HRR.out.len]; exact hjo
                  obtain ⟨va, hva⟩ : ∃ va, vs2.getD j nilS = va := ⟨_, rfl⟩
                  obtain ⟨row, hrow⟩ : ∃ row, outs2.getD j [] = row := ⟨_, rfl⟩
                  have hrd := HRR.out.rd j hjo
                  have hap := HRR.out.apart j hjo
                  have hsh := HM.out.short j hjm
                  rw [if_neg (Nat.lt_irrefl _)] at hsh
                  rw [hva, hrow] at hrd
                  rw [hva] at hap
                  rw [hrow] at hsh
                  have c0 : wr.cell? ⟨g0, j, none⟩ = some va := by rw [HRR.out.arr.cell, ← hva, List.getD_eq_getElem?_getD, List.getElem?_eq_getElem hjv]; rfl
                  have c1 : wr.cell? ⟨b2, o2 + k * 2 + 1, none⟩ = some (I s) := (hB.cell (p := ⟨b2, o2 + k * 2 + 1, none⟩) hb2).trans (by rw [Nat.add_assoc, ← HS.out]; exact HG2.out _ _ (pairs_at1 D k hlt))
                  have c2 := HRR.out.arr.frozen j
                  have hgl := HRR.out.arr.lt
                  have hjz : (j : Int) < m := by omega
                  have hkz : (k : Int) < D.length := by omega
                  have HRD := Lib.hid hrd
                  have HAP := Lib.hid hap
                  have HROW := Lib.hid hrow
                  obtain ⟨Aa, ca, rfl, hma⟩ := hrd.form
                  clear hrd hap hrow hva
                  go_upto_region 18 with fail
                  refine wp_region_z (fun w' => w'.cell? ⟨g0, j, none⟩ = some (.slice Aa row.length ca) ∧ w'.cell? ⟨b2, o2 + k * 2 + 1, none⟩ = some (I s)) 13 (by kernel_rfl) ?_
                  have hS0 : wr.drew.cell? ⟨g0, j, none⟩ = some (.slice Aa row.length ca) ∧ wr.drew.cell? ⟨b2, o2 + k * 2 + 1, none⟩ = some (I s) := ⟨c0, c1⟩
                  refine wpZ_take (i := 0) (v := ?_) rfl (by kernel_rfl) (fun _ _ _ h => h) (Or.inl ⟨rfl, ?_⟩) hS0 ?_
                  rotate_left
                  · rintro W ⟨s0, s1⟩
                    go_simp
                    try (with_reducible rfl)
                  refine wpZ_take (i := 1) (v := ?_) rfl (by kernel_rfl) (fun _ _ _ h => h) (Or.inl ⟨rfl, ?_⟩) hS0 ?_
                  rotate_left
                  · rintro W ⟨s0, s1⟩
                    go_simp
                    try (with_reducible rfl)
                  refine wpZ_take (i := 2) (v := ?_) rfl (by kernel_rfl) (fun _ _ _ h => h) (Or.inl ⟨rfl, ?_⟩) hS0 ?_
                  rotate_left
                  · rintro W ⟨s0, s1⟩
                    go_simp
                    try (with_reducible rfl)
                  refine wpZ_take (i := 3) (v := ?_) rfl (by kernel_rfl) (fun _ _ _ h => h) (Or.inl ⟨rfl, ?_⟩) hS0 ?_
                  rotate_left
                  · rintro W ⟨s0, s1⟩
                    go_simp
                    try (with_reducible rfl)
                  refine wpZ_take (i := 4) (v := ?_) rfl (by kernel_rfl) (fun _ _ _ h => h) (Or.inl ⟨rfl, ?_⟩) hS0 ?_
                  rotate_left
                  · rintro W ⟨s0, s1⟩
                    go_simp
                    try (with_reducible rfl)
                  refine wpZ_take (i := 5) (v := ?_) rfl (by kernel_rfl) (fun _ _ _ h => h) (Or.inl ⟨rfl, ?_⟩) hS0 ?_
                  rotate_left
                  · rintro W ⟨s0, s1⟩
                    go_simp
                    try (with_reducible rfl)
                  refine wpZ_take (i := 6) (v := ?_) rfl (by kernel_rfl) (fun _ _ _ h => h) (Or.inl ⟨rfl, ?_⟩) hS0 ?_
                  rotate_left
                  · rintro W ⟨s0, s1⟩
                    go_simp
                    try (with_reducible rfl)
                  refine wpZ_take (i := 7) (v := ?_) rfl (by kernel_rfl) (fun _ _ _ h => h) (Or.inl ⟨rfl, ?_⟩) hS0 ?_
                  rotate_left
                  · rintro W ⟨s0, s1⟩
                    go_simp
                    try (with_reducible rfl)
                  refine wpZ_take (i := 8) (v := ?_) rfl (by kernel_rfl) (fun _ _ _ h => h) (Or.inl ⟨rfl, ?_⟩) hS0 ?_
                  rotate_left
                  · rintro W ⟨s0, s1⟩
                    go_simp
                    try (with_reducible rfl)
                  refine wpZ_take (i := 9) (v := ?_) rfl (by kernel_rfl) (fun _ _ _ h => h) (Or.inl ⟨rfl, ?_⟩) hS0 ?_
                  rotate_left
                  · rintro W ⟨s0, s1⟩
                    go_simp
                    try (with_reducible rfl)
                  refine wpZ_take (i := 10) (v := ?_) rfl (by kernel_rfl) (fun _ _ _ h => h) (Or.inl ⟨rfl, ?_⟩) hS0 ?_
                  rotate_left
                  · rintro W ⟨s0, s1⟩
                    go_simp
                    try (with_reducible rfl)
                  refine wpZ_one (i := 11) rfl (by kernel_rfl) (fun K hK => ?_)
                  go_simp
                  refine (put_any _ _ row s HRD.out.drew (by omega)).mono ?_
                  rintro e w5 ⟨r, rfl, hr, hB5, hfr⟩
                  obtain ⟨Ar, cr, rfl, hmr⟩ := hr.form
                  go_wp2_with fail
                  have hS1 : w5.cell? ⟨g0, j, none⟩ = some (.slice Aa row.length ca) ∧ w5.cell? ⟨b2, o2 + k * 2 + 1, none⟩ = some (I s) := ⟨(hB5.cell (p := ⟨g0, j, none⟩) hgl).trans c0, (hB5.cell (p := ⟨b2, o2 + k * 2 + 1, none⟩) (by have := hB.size; simp; omega)).trans c1⟩
                  refine hK _ _ (fun _ => hS1) ?_
                  clear hK K
                  refine wpZ_take (i := 12) (v := ?_) rfl (by kernel_rfl) (fun _ _ _ h => h) (Or.inl ⟨rfl, ?_⟩) hS1 ?_
                  rotate_left
                  · rintro W ⟨s0, s1⟩
                    go_simp
                    try (with_reducible rfl)
                  obtain ⟨d2, d3⟩ := hS1
                  have d4 : w5.frozen? ⟨g0, j, none⟩ = false := (hB5.frozen (p := ⟨g0, j, none⟩) hgl).trans c2
                  refine wpZ_one (i := 13) rfl (by kernel_rfl) (fun K hK => ?_)
                  go_simp
                  refine hK _ _ (fun h => absurd rfl h) ?_
                  clear hK K
                  refine wpZ_done (by kernel_rfl) ?_ _
                  go_wp2
                  go_roundw
                  case rel =>
                    have hrg : (Value.slice Ar (putF row s).length cr).ownBlock ≠ some g0 := by
                      rcases hfr with h | h
                      · rw [h]; exact HAP.out
                      · intro e
                        have := h g0 e
                        simp at this
                        omega
                    have hput := (HRR.out.below ((Below.refl _ wr).drew.trans hB5)).put hjo hr hrg
                    have hM2 := refMid_hit HM.out hjm HDK.out (HAT.out.1 (by simp))
                    rw [HROW.out] at hM2
                    have hB6 : Below wr.heap.size wr w5 := (Below.refl _ wr).drew.trans hB5
                    exact ⟨j + 1, _, _, by omega, by go_num, hput, hM2, (HK.out.later hB6).set _ _, (below_step hB hB6 hB.size).setCell hlow _⟩
                  case measure => simp [intOf]; omega
              · have hke : j = m := by omega
                subst hke
                go_wp2
                go_roundw
                case rel => exact ⟨k + 1, vs2, outs2, by omega, by go_num, HRR.out, refMid_next HM.out, hB⟩
                case measure => simp [intOf]; omega
          · have hke : k = D.length := by omega
            subst hke
            go_wp2
            go_ret2
            have hl := HM.out.len
            exact ⟨_, outs, by rw [HE.out]; rfl, by have := HRR.out.rdRows (by omega); rwa [hl] at this, hB, fun h => absurd HE.out h, fun k hk _ => (by obtain rfl : m = k := (by omega); exact refMid_end HM.out)⟩
      · have hf' : (fitF n E (firsts D) != 0) = true := ne_t hf
        go_wp2_with (go_at_call 26; refine (fit26_any _ _ _ _ E (firsts D) HX1.out HR.out).mono ?_; rintro e w' ⟨rfl, rfl⟩)
        go_ret2
        exact ⟨_, [], rfl, ⟨[], Rd.nil _, rfl, fun i hi => by simp at hi⟩, hB, fun _ => rfl, fun _ _ h => absurd h hf⟩
end Go.Proofs.Ytcghkemfepnihaa
