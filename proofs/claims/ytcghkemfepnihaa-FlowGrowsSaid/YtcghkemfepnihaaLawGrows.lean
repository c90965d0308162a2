import Derived.Test.YtcghkemfepnihaaLawBoth
namespace Go.Proofs.Ytcghkemfepnihaa
open Go.RowKit

def startsF (l : List Int) : List Int := (l.take 10).map (· % 20)
theorem startsF_snoc {l : List Int} {k : Nat} (h : k < l.length) (h10 : k < 10) : startsF (l.take (k + 1)) = startsF (l.take k) ++ [l[k] % 20] := by
  simp only [startsF, List.take_take]
  rw [show min 10 (k + 1) = k + 1 by omega, show min 10 k = k by omega, List.take_succ_eq_append_getElem h, List.map_append]
  rfl
theorem startsF_length (l : List Int) : (startsF l).length ≤ 10 := by simp [startsF]; omega
theorem startsF_end {l : List Int} {k : Nat} (h : k = l.length ∨ k = 10) (hk : k ≤ 10) : startsF (l.take k) = startsF l := by
  simp only [startsF, List.take_take]
  rcases h with h | h
  · rw [h, List.take_of_length_le (l := l) (by omega), List.take_of_length_le (l := l) (by omega)]
  · rw [h]; simp
theorem rn_more {E E' : List (Int × Int)} {S S' : List Int} (hE : ∀ p ∈ E, p ∈ E') (hS : ∀ v ∈ S, v ∈ S') : ∀ k v, Rn E S k v → Rn E' S' k v := by
  intro k
  induction k with
  | zero => exact fun v h => hS v h
  | succ k ih => rintro v ⟨u, hu, hr⟩; exact ⟨u, hE _ hu, ih u hr⟩

set_option maxHeartbeats 4000000 in
set_option maxRecDepth 100000 in
theorem flowGrows_walk (w : World) (v1 v2 v3 : Value) (l mo : List (Int × Int)) (fr : List Int) (h1 : Rd w v1 l.length (pairs8 l)) (h2 : Rd w v2 mo.length (pairs8 mo)) (h3 : Rd w v3 fr.length (u8s fr))
    (hu : ∀ p ∈ l, (0 ≤ p.1 ∧ p.1 ≤ 255) ∧ (0 ≤ p.2 ∧ p.2 ≤ 255)) (hu2 : ∀ p ∈ mo, (0 ≤ p.1 ∧ p.1 ≤ 255) ∧ (0 ≤ p.2 ∧ p.2 ≤ 255)) (hu3 : ∀ p ∈ fr, 0 ≤ p ∧ p ≤ 255) :
    Calls Try.prog 3 #[v1, v2, v3] w fun e w' => e = .returned (.bool true) ∧ Below w.heap.size w w' := by
  obtain ⟨A3, p3, rfl, hm3⟩ := h3.form
  have H2 := Lib.hid h2
  have H3 := Lib.hid h3
  have H1 := Lib.hid h1
  have HU := Lib.hid hu
  have HU2 := Lib.hid hu2
  have HU3 := Lib.hid hu3
  have hr := nodes_rng hu
  have hl := nodesF_length l 20
  have hr2 := nodes_rng hu2
  have hl2 := nodesF_length mo 20
  clear h1 h2 h3 hu hu2 hu3
  go_enter Try.func3, Try.ntmps3
  go_wp2_with fail
  refine (nodes_any _ _ l H1.out HU.out).mono ?_
  rintro e w1 ⟨r1, rfl, hr1, B1⟩
  generalize nodesF l 20 = E at hr hl hr1
  have HE1 := Lib.hid (Rd.of_own hr1)
  have HR := Lib.hid hr
  have HR2 := Lib.hid hr2
  clear hr1 hr hr2
  have HO := Lib.hid (own_start w1 3 1)
  have DA : Below w.heap.size w (w1.alloc (.cells #[] 3)) := B1.alloc B1.size _
  have DB : Below w1.heap.size w1 (w1.alloc (.cells #[] 3)) := below_alloc _ _
  go_wp2_with fail
  -- the starts
  go_loopw [8, 9] (fun r i wr => ∃ k : Nat, k ≤ fr.length ∧ k ≤ 10 ∧ i = .int .i64 k ∧ wr.ownsRow w1.heap.size 3 1 r (startsF (fr.take k)).length (ints (startsF (fr.take k))) ∧ Below w.heap.size w wr ∧ Below w1.heap.size w1 wr) (fun _ i _ => fr.length - (intOf i).toNat)
  case atStart => exact ⟨0, Nat.zero_le _, Nat.zero_le _, rfl, by simpa [startsF, ints] using HO.out, DA, DB⟩
  case round =>
    clear DA DB HO
    obtain ⟨k, hk, hk10, rfl, hown, hB, hB1⟩ := hrel
    have hown := Lib.hid hown
    have s1 := B1.size
    have s2 := hB1.size
    by_cases hlt : k < fr.length
    · have hd1 : decide ((k : Int) < (fr.length : Int)) = true := de_t (by omega)
      by_cases h10 : k < 10
      · have hd2 : decide ((k : Int) < 10) = true := de_t (by omega)
        obtain ⟨b1, o1, _, e1, _, hb1, g1⟩ := H3.out.elem (by simp; omega)
        cases e1
        obtain ⟨u1, u2⟩ := HU3.out fr[k] (List.getElem_mem hlt)
        have f0 : wr.cell? ⟨b1, o1 + k, none⟩ = some (.int .u8 fr[k]) := (hB.cell (p := ⟨b1, o1 + k, none⟩) hb1).trans (g1 _ _ (u8s_at fr k hlt))
        clear g1
        have hs := Lib.hid (startsF_snoc hlt h10)
        have hlk : Hid ((startsF (fr.take k)).length ≤ 10) := Lib.hid (startsF_length _)
        go_wp2_with (at_builtin; refine wpl_append1 rfl _ _ _ rfl E26 rfl (hown.out.alloc _) (u := .slice (some ⟨wr.heap.size, 0, none⟩) 1 1) (m := 1) (news := [I (fr[k] % 20)]) rfl (Rd.fresh wr #[I (fr[k] % 20)] 3 1 1 (by omega) (by omega)) rfl (by simp [Value.oneCell']) (by omega) (by have := hlk.out; omega) (by have := hlk.out; simp only [maxLen]; omega) (by simp; omega) ?_; intro g' cap' w2 hap)
        go_roundw
        case rel => exact ⟨k + 1, by omega, by omega, by go_num, by rw [hs.out, ints_append]; simpa [ints] using hap.own, hap.below (hB.alloc (by omega) _) (hown.out.alloc _) (by omega) (by simp; omega), hap.below (hB1.alloc s2 _) (hown.out.alloc _) (Nat.le_refl _) (by simp; omega)⟩
        case measure => simp [intOf]; omega
      · have hd2 : decide ((k : Int) < 10) = false := de_f (by omega)
        go_wp2_with fail
        have hS := startsF_end (l := fr) (k := k) (by omega) hk10
        have hown' := hown.out
        rw [hS] at hown'
        have hSl := startsF_length fr
        have hSr : ∀ v ∈ startsF fr, 0 ≤ v ∧ v < (20 : Int) := fun v hv => by
          obtain ⟨u, hu, rfl⟩ := List.mem_map.1 hv
          have := HU3.out u (List.mem_of_mem_take hu)
          omega
        generalize startsF fr = S at hown' hSl hSr
        obtain ⟨As, cs, rfl, _⟩ := (Rd.of_own hown').form
        have HS := Lib.hid (Rd.of_own hown')
        have HSR := Lib.hid hSr
        have F1 : Hid (fitF 20 E S = 0) := Lib.hid (fit_in_range (m := 20) (by omega) HR.out hSr)
        have F2 : Hid (fitF 20 (E ++ nodesF mo 20) (S ++ [3]) = 0) := Lib.hid (fit_in_range (m := 20) (by omega) (fun p hp => (List.mem_append.1 hp).elim (HR.out p) (HR2.out p)) (fun v hv => (List.mem_append.1 hv).elim (hSr v) (fun h => by simp at h; subst h; omega)))
        clear hown hown' hS hSr
        have HEr := Lib.hid (HE1.out.below hB1)
        refine (own_any _ _ E HEr.out (by omega)).mono ?_
        rintro e w2 ⟨r2, rfl, hr2, B2⟩
        have D2 : Below w.heap.size w w2 := below_step hB B2 hB.size
        have HE2 := Lib.hid (HEr.out.below B2)
        have HS2 := Lib.hid (HS.out.below B2)
        have HS2a := Lib.hid (HS2.out.alloc (.cells #[] 3))
        have HR2' := Lib.hid (Rd.of_own hr2)
        have HO2 := Lib.hid (own_start w2 3 1)
        clear hr2 hB hB1 HEr B2
        go_wp2_with (at_builtin; refine wpl_append rfl _ _ _ rfl E26 rfl HO2.out rfl HS2a.out (by simp) (ints_one _) (by omega) (by simp only [maxLen]; omega) (by simp) ?_; intro c3 w3 hap)
        have C3 : Below w2.heap.size w2 w3 := hap.below (below_alloc _ _) HO2.out (Nat.le_refl _) (by simp)
        have D3 : Below w.heap.size w w3 := below_step D2 C3 D2.size
        have HC3 : Hid (Rd w3 c3 S.length (ints S)) := Lib.hid (by simpa using Rd.of_own hap.own)
        have HR3 := Lib.hid (HR2'.out.below C3)
        have HE3 := Lib.hid (HE2.out.below C3)
        have HS3 := Lib.hid (HS2.out.below C3)
        clear hap HO2 HS2a HS2 HE2 HR2' C3 D2
        refine (reach_any _ 20 _ _ E S HR3.out HC3.out (by omega) (by omega)).mono ?_
        rintro e w4 ⟨ra, a, rfl, ha, B4, _, ha1⟩
        rw [F1.out]
        have D4 : Below w.heap.size w w4 := below_step D3 B4 D3.size
        have HA1 := Lib.hid (ha1 20 rfl F1.out)
        have HA4 : Hid (Rd w4 ra 20 (bools a)) := Lib.hid (by rw [HA1.out.len] at ha; exact ha)
        have HE4 := Lib.hid (HE3.out.below B4)
        have HS4 := Lib.hid (HS3.out.below B4)
        clear ha ha1 HC3 HR3 HE3 HS3 D3 B4
        obtain ⟨Aa, ca, rfl, _⟩ := HA4.out.form
        go_wp2_with fail
        refine (own_any _ _ E HE4.out (by omega)).mono ?_
        rintro e w5 ⟨r5, rfl, hr5, B5⟩
        have D5 : Below w.heap.size w w5 := below_step D4 B5 D4.size
        have HO5 := Lib.hid hr5
        clear hr5 HE4
        go_wp2_with fail
        refine (nodes_any _ _ mo (H2.out.below D5) HU2.out).mono ?_
        rintro e w6 ⟨r6, rfl, hr6, B6⟩
        generalize nodesF mo 20 = M at hl2 hr6 HR2 F2
        have D6 : Below w.heap.size w w6 := below_step D5 B6 D5.size
        have K6 : Below w4.heap.size w4 w6 := below_step B5 B6 B5.size
        have HO6 : Hid (w6.ownsRow w4.heap.size 47 2 r5 E.length (pairs E)) := Lib.hid (HO5.out.kept (row := none) ⟨B6.os, B6.tape, B6.output, B6.size, fun k hk _ => B6.block k hk⟩ (by cases r5.ownBlock <;> simp))
        have HM6 := Lib.hid (Rd.of_own hr6)
        have z4 := D4.size
        have z6 := K6.size
        clear hr6 HO5 D5 B5 B6
        go_wp2_with (first
          | (at_builtin; refine wpl_append rfl _ _ 24 rfl E24 rfl HO6.out rfl HM6.out (pairs_length _) (pairs_one _) (by omega) (by simp only [maxLen]; omega) (by omega) ?_; intro c7 w7 hap7; have K7 : Below w4.heap.size w4 w7 := hap7.below K6 HO6.out (Nat.le_refl _) (by omega); have D7 : Below w.heap.size w w7 := hap7.below D6 HO6.out (by omega) (by omega); have HS7 := Lib.hid (HS4.out.below K7); have HS7a := Lib.hid (HS7.out.alloc (.cells #[] 3)); have HO7 := Lib.hid (own_start w7 3 1); have HC7 : Hid (Rd w7 c7 (E ++ M).length (pairs (E ++ M))) := Lib.hid (by rw [pairs_append, List.length_append]; exact Rd.of_own hap7.own); clear hap7 HO6 HM6 K6 D6; have z7 := K7.size)
          | (at_builtin; refine wpl_append rfl _ _ 26 rfl E26 rfl HO7.out rfl HS7a.out (by simp) (ints_one _) (by omega) (by simp only [maxLen]; omega) (by simp) ?_; intro c8 w8 hap8; have C8 : Below w7.heap.size w7 w8 := hap8.below (below_alloc _ _) HO7.out (Nat.le_refl _) (by simp); have z8 := C8.size; have HO8 : Hid ((w8.alloc (.cells #[I 3] 3)).ownsRow w7.heap.size 3 1 c8 S.length (ints S)) := Lib.hid (by simpa using hap8.own.alloc (.cells #[I 3] 3)); clear hap8 HO7 HS7a)
          | (at_builtin; refine wpl_append1 rfl _ _ 26 rfl E26 rfl HO8.out (u := .slice (some ⟨w8.heap.size, 0, none⟩) 1 1) (m := 1) (news := [I 3]) rfl (Rd.fresh w8 #[I 3] 3 1 1 (by omega) (by omega)) rfl (by simp [Value.oneCell']) (by omega) (by omega) (by simp only [maxLen]; omega) (by simp; omega) ?_; intro g9 p9 w9 hap9; have C9 : Below w7.heap.size w7 w9 := hap9.below (C8.alloc z8 _) HO8.out (Nat.le_refl _) (by simp; omega); have HS9 : Hid (Rd w9 (.slice (some ⟨g9, 0, none⟩) (S.length + 1) p9) (S ++ [3]).length (ints (S ++ [3]))) := Lib.hid (by rw [ints_append]; simpa [ints] using Rd.of_own hap9.own); clear hap9 HO8))
        have K9 : Below w4.heap.size w4 w9 := below_step K7 C9 K7.size
        have D9 : Below w.heap.size w w9 := below_step D7 C9 D7.size
        have HC9 := Lib.hid (HC7.out.below C9)
        refine (reach_any _ 20 _ _ (E ++ M) (S ++ [3]) HC9.out HS9.out (by simp; omega) (by simp; omega)).mono ?_
        rintro e w10 ⟨rb, b, rfl, hb, B10, _, hb1⟩
        rw [F2.out]
        have D10 : Below w.heap.size w w10 := below_step D9 B10 D9.size
        have HB1 := Lib.hid (hb1 20 rfl F2.out)
        have HB10 : Hid (Rd w10 rb 20 (bools b)) := Lib.hid (by rw [HB1.out.len] at hb; exact hb)
        have HA10 := Lib.hid ((HA4.out.below K9).below B10)
        clear hb hb1 HA4 HC9 HS9 HC7 HS7 HS4 HS HE1 K7 D7 C8 C9 K9 D9 D4 B10
        obtain ⟨Ab, cb, rfl, _⟩ := HB10.out.form
        have hal := Lib.hid HA1.out.len
        have hbl := Lib.hid HB1.out.len
        have hle : Hid (∀ i : Nat, i < 20 → a.getD i false = true → b.getD i false = true) := Lib.hid (fun i hi h => by
          refine (HB1.out.at_ i hi).2 ?_
          obtain ⟨k, hk⟩ := (HA1.out.at_ i hi).1 h
          rw [map_turn_false] at hk ⊢
          exact ⟨k, rn_more (fun p hp => List.mem_append.2 (.inl hp)) (fun v hv => List.mem_append.2 (.inl hv)) k i hk⟩)
        have hb3 : Hid (b.getD 3 false = true) := Lib.hid ((HB1.out.at_ 3 (by omega)).2 ⟨0, by simp [Rn]⟩)
        clear HA1 HB1
        go_wp2_with fail
        go_loopw [14] (fun i wr => ∃ k : Nat, k ≤ 20 ∧ i = .int .i64 k ∧ Below w.heap.size w wr ∧ Below w10.heap.size w10 wr) (fun i _ => 20 - (intOf i).toNat)
        case atStart => exact ⟨0, Nat.zero_le _, rfl, D10, Below.refl _ _⟩
        case round =>
          clear D10
          obtain ⟨k, hk, rfl, D, K⟩ := hrel
          obtain ⟨ba, oa, _, e1, _, hba, ga⟩ := HA10.out.elem (by rw [bools_length, hal.out]; omega)
          obtain ⟨bb, ob, _, e2, _, hbb, gb⟩ := HB10.out.elem (by rw [bools_length, hbl.out]; omega)
          cases e1
          cases e2
          have rda : ∀ i : Nat, i < 20 → wr.cell? ⟨ba, oa + i, none⟩ = some (.bool (a.getD i false)) := fun i hi => by
            have hil : i < a.length := by rw [hal.out]; exact hi
            refine (K.cell (p := ⟨ba, oa + i, none⟩) hba).trans ?_
            rw [List.getD_eq_getElem?_getD, List.getElem?_eq_getElem hil]
            exact ga i _ (bools_at a i hil)
          have rdb : ∀ i : Nat, i < 20 → wr.cell? ⟨bb, ob + i, none⟩ = some (.bool (b.getD i false)) := fun i hi => by
            have hil : i < b.length := by rw [hbl.out]; exact hi
            refine (K.cell (p := ⟨bb, ob + i, none⟩) hbb).trans ?_
            rw [List.getD_eq_getElem?_getD, List.getElem?_eq_getElem hil]
            exact gb i _ (bools_at b i hil)
          have RDA := Lib.hid rda
          have RDB := Lib.hid rdb
          clear ga gb rda rdb
          by_cases hlt : k < 20
          · obtain ⟨x, hx⟩ : ∃ x, a.getD k false = x := ⟨_, rfl⟩
            obtain ⟨y, hy⟩ : ∃ y, b.getD k false = y := ⟨_, rfl⟩
            have f1 := RDA.out k hlt
            have f2 := RDB.out k hlt
            rw [hx] at f1
            rw [hy] at f2
            have hxy := hle.out k hlt
            rw [hx, hy] at hxy
            have hk20 : (k : Int) < 20 := by omega
            clear hx hy
            cases x with
            | false =>
              clear hxy
              go_wp2
              go_roundw
              case rel => exact ⟨k + 1, by omega, by go_num, D, K⟩
              case measure => simp [intOf]; omega
            | true =>
              obtain rfl : y = true := hxy rfl
              clear hxy
              go_wp2
              go_roundw
              case rel => exact ⟨k + 1, by omega, by go_num, D, K⟩
              case measure => simp [intOf]; omega
          · have f3 := RDB.out 3 (by omega)
            rw [hb3.out] at f3
            go_wp2_with fail
            refine (lives_any _).mono ?_
            rintro e w11 ⟨rfl, B11⟩
            go_wp2
            go_ret
            exact ⟨rfl, below_step D B11 D.size⟩
    · have hd1 : decide ((k : Int) < (fr.length : Int)) = false := de_f (by omega)
      go_wp2_with fail
      have hS := startsF_end (l := fr) (k := k) (by omega) hk10
      have hown' := hown.out
      rw [hS] at hown'
      have hSl := startsF_length fr
      have hSr : ∀ v ∈ startsF fr, 0 ≤ v ∧ v < (20 : Int) := fun v hv => by
        obtain ⟨u, hu, rfl⟩ := List.mem_map.1 hv
        have := HU3.out u (List.mem_of_mem_take hu)
        omega
      generalize startsF fr = S at hown' hSl hSr
      obtain ⟨As, cs, rfl, _⟩ := (Rd.of_own hown').form
      have HS := Lib.hid (Rd.of_own hown')
      have HSR := Lib.hid hSr
      have F1 : Hid (fitF 20 E S = 0) := Lib.hid (fit_in_range (m := 20) (by omega) HR.out hSr)
      have F2 : Hid (fitF 20 (E ++ nodesF mo 20) (S ++ [3]) = 0) := Lib.hid (fit_in_range (m := 20) (by omega) (fun p hp => (List.mem_append.1 hp).elim (HR.out p) (HR2.out p)) (fun v hv => (List.mem_append.1 hv).elim (hSr v) (fun h => by simp at h; subst h; omega)))
      clear hown hown' hS hSr
      have HEr := Lib.hid (HE1.out.below hB1)
      refine (own_any _ _ E HEr.out (by omega)).mono ?_
      rintro e w2 ⟨r2, rfl, hr2, B2⟩
      have D2 : Below w.heap.size w w2 := below_step hB B2 hB.size
      have HE2 := Lib.hid (HEr.out.below B2)
      have HS2 := Lib.hid (HS.out.below B2)
      have HS2a := Lib.hid (HS2.out.alloc (.cells #[] 3))
      have HR2' := Lib.hid (Rd.of_own hr2)
      have HO2 := Lib.hid (own_start w2 3 1)
      clear hr2 hB hB1 HEr B2
      go_wp2_with (at_builtin; refine wpl_append rfl _ _ _ rfl E26 rfl HO2.out rfl HS2a.out (by simp) (ints_one _) (by omega) (by simp only [maxLen]; omega) (by simp) ?_; intro c3 w3 hap)
      have C3 : Below w2.heap.size w2 w3 := hap.below (below_alloc _ _) HO2.out (Nat.le_refl _) (by simp)
      have D3 : Below w.heap.size w w3 := below_step D2 C3 D2.size
      have HC3 : Hid (Rd w3 c3 S.length (ints S)) := Lib.hid (by simpa using Rd.of_own hap.own)
      have HR3 := Lib.hid (HR2'.out.below C3)
      have HE3 := Lib.hid (HE2.out.below C3)
      have HS3 := Lib.hid (HS2.out.below C3)
      clear hap HO2 HS2a HS2 HE2 HR2' C3 D2
      refine (reach_any _ 20 _ _ E S HR3.out HC3.out (by omega) (by omega)).mono ?_
      rintro e w4 ⟨ra, a, rfl, ha, B4, _, ha1⟩
      rw [F1.out]
      have D4 : Below w.heap.size w w4 := below_step D3 B4 D3.size
      have HA1 := Lib.hid (ha1 20 rfl F1.out)
      have HA4 : Hid (Rd w4 ra 20 (bools a)) := Lib.hid (by rw [HA1.out.len] at ha; exact ha)
      have HE4 := Lib.hid (HE3.out.below B4)
      have HS4 := Lib.hid (HS3.out.below B4)
      clear ha ha1 HC3 HR3 HE3 HS3 D3 B4
      obtain ⟨Aa, ca, rfl, _⟩ := HA4.out.form
      go_wp2_with fail
      refine (own_any _ _ E HE4.out (by omega)).mono ?_
      rintro e w5 ⟨r5, rfl, hr5, B5⟩
      have D5 : Below w.heap.size w w5 := below_step D4 B5 D4.size
      have HO5 := Lib.hid hr5
      clear hr5 HE4
      go_wp2_with fail
      refine (nodes_any _ _ mo (H2.out.below D5) HU2.out).mono ?_
      rintro e w6 ⟨r6, rfl, hr6, B6⟩
      generalize nodesF mo 20 = M at hl2 hr6 HR2 F2
      have D6 : Below w.heap.size w w6 := below_step D5 B6 D5.size
      have K6 : Below w4.heap.size w4 w6 := below_step B5 B6 B5.size
      have HO6 : Hid (w6.ownsRow w4.heap.size 47 2 r5 E.length (pairs E)) := Lib.hid (HO5.out.kept (row := none) ⟨B6.os, B6.tape, B6.output, B6.size, fun k hk _ => B6.block k hk⟩ (by cases r5.ownBlock <;> simp))
      have HM6 := Lib.hid (Rd.of_own hr6)
      have z4 := D4.size
      have z6 := K6.size
      clear hr6 HO5 D5 B5 B6
      go_wp2_with (first
        | (at_builtin; refine wpl_append rfl _ _ 24 rfl E24 rfl HO6.out rfl HM6.out (pairs_length _) (pairs_one _) (by omega) (by simp only [maxLen]; omega) (by omega) ?_; intro c7 w7 hap7; have K7 : Below w4.heap.size w4 w7 := hap7.below K6 HO6.out (Nat.le_refl _) (by omega); have D7 : Below w.heap.size w w7 := hap7.below D6 HO6.out (by omega) (by omega); have HS7 := Lib.hid (HS4.out.below K7); have HS7a := Lib.hid (HS7.out.alloc (.cells #[] 3)); have HO7 := Lib.hid (own_start w7 3 1); have HC7 : Hid (Rd w7 c7 (E ++ M).length (pairs (E ++ M))) := Lib.hid (by rw [pairs_append, List.length_append]; exact Rd.of_own hap7.own); clear hap7 HO6 HM6 K6 D6; have z7 := K7.size)
        | (at_builtin; refine wpl_append rfl _ _ 26 rfl E26 rfl HO7.out rfl HS7a.out (by simp) (ints_one _) (by omega) (by simp only [maxLen]; omega) (by simp) ?_; intro c8 w8 hap8; have C8 : Below w7.heap.size w7 w8 := hap8.below (below_alloc _ _) HO7.out (Nat.le_refl _) (by simp); have z8 := C8.size; have HO8 : Hid ((w8.alloc (.cells #[I 3] 3)).ownsRow w7.heap.size 3 1 c8 S.length (ints S)) := Lib.hid (by simpa using hap8.own.alloc (.cells #[I 3] 3)); clear hap8 HO7 HS7a)
        | (at_builtin; refine wpl_append1 rfl _ _ 26 rfl E26 rfl HO8.out (u := .slice (some ⟨w8.heap.size, 0, none⟩) 1 1) (m := 1) (news := [I 3]) rfl (Rd.fresh w8 #[I 3] 3 1 1 (by omega) (by omega)) rfl (by simp [Value.oneCell']) (by omega) (by omega) (by simp only [maxLen]; omega) (by simp; omega) ?_; intro g9 p9 w9 hap9; have C9 : Below w7.heap.size w7 w9 := hap9.below (C8.alloc z8 _) HO8.out (Nat.le_refl _) (by simp; omega); have HS9 : Hid (Rd w9 (.slice (some ⟨g9, 0, none⟩) (S.length + 1) p9) (S ++ [3]).length (ints (S ++ [3]))) := Lib.hid (by rw [ints_append]; simpa [ints] using Rd.of_own hap9.own); clear hap9 HO8))
      have K9 : Below w4.heap.size w4 w9 := below_step K7 C9 K7.size
      have D9 : Below w.heap.size w w9 := below_step D7 C9 D7.size
      have HC9 := Lib.hid (HC7.out.below C9)
      refine (reach_any _ 20 _ _ (E ++ M) (S ++ [3]) HC9.out HS9.out (by simp; omega) (by simp; omega)).mono ?_
      rintro e w10 ⟨rb, b, rfl, hb, B10, _, hb1⟩
      rw [F2.out]
      have D10 : Below w.heap.size w w10 := below_step D9 B10 D9.size
      have HB1 := Lib.hid (hb1 20 rfl F2.out)
      have HB10 : Hid (Rd w10 rb 20 (bools b)) := Lib.hid (by rw [HB1.out.len] at hb; exact hb)
      have HA10 := Lib.hid ((HA4.out.below K9).below B10)
      clear hb hb1 HA4 HC9 HS9 HC7 HS7 HS4 HS HE1 K7 D7 C8 C9 K9 D9 D4 B10
      obtain ⟨Ab, cb, rfl, _⟩ := HB10.out.form
      have hal := Lib.hid HA1.out.len
      have hbl := Lib.hid HB1.out.len
      have hle : Hid (∀ i : Nat, i < 20 → a.getD i false = true → b.getD i false = true) := Lib.hid (fun i hi h => by
        refine (HB1.out.at_ i hi).2 ?_
        obtain ⟨k, hk⟩ := (HA1.out.at_ i hi).1 h
        rw [map_turn_false] at hk ⊢
        exact ⟨k, rn_more (fun p hp => List.mem_append.2 (.inl hp)) (fun v hv => List.mem_append.2 (.inl hv)) k i hk⟩)
      have hb3 : Hid (b.getD 3 false = true) := Lib.hid ((HB1.out.at_ 3 (by omega)).2 ⟨0, by simp [Rn]⟩)
      clear HA1 HB1
      go_wp2_with fail
      go_loopw [14] (fun i wr => ∃ k : Nat, k ≤ 20 ∧ i = .int .i64 k ∧ Below w.heap.size w wr ∧ Below w10.heap.size w10 wr) (fun i _ => 20 - (intOf i).toNat)
      case atStart => exact ⟨0, Nat.zero_le _, rfl, D10, Below.refl _ _⟩
      case round =>
        clear D10
        obtain ⟨k, hk, rfl, D, K⟩ := hrel
        obtain ⟨ba, oa, _, e1, _, hba, ga⟩ := HA10.out.elem (by rw [bools_length, hal.out]; omega)
        obtain ⟨bb, ob, _, e2, _, hbb, gb⟩ := HB10.out.elem (by rw [bools_length, hbl.out]; omega)
        cases e1
        cases e2
        have rda : ∀ i : Nat, i < 20 → wr.cell? ⟨ba, oa + i, none⟩ = some (.bool (a.getD i false)) := fun i hi => by
          have hil : i < a.length := by rw [hal.out]; exact hi
          refine (K.cell (p := ⟨ba, oa + i, none⟩) hba).trans ?_
          rw [List.getD_eq_getElem?_getD, List.getElem?_eq_getElem hil]
          exact ga i _ (bools_at a i hil)
        have rdb : ∀ i : Nat, i < 20 → wr.cell? ⟨bb, ob + i, none⟩ = some (.bool (b.getD i false)) := fun i hi => by
          have hil : i < b.length := by rw [hbl.out]; exact hi
          refine (K.cell (p := ⟨bb, ob + i, none⟩) hbb).trans ?_
          rw [List.getD_eq_getElem?_getD, List.getElem?_eq_getElem hil]
          exact gb i _ (bools_at b i hil)
        have RDA := Lib.hid rda
        have RDB := Lib.hid rdb
        clear ga gb rda rdb
        by_cases hlt : k < 20
        · obtain ⟨x, hx⟩ : ∃ x, a.getD k false = x := ⟨_, rfl⟩
          obtain ⟨y, hy⟩ : ∃ y, b.getD k false = y := ⟨_, rfl⟩
          have f1 := RDA.out k hlt
          have f2 := RDB.out k hlt
          rw [hx] at f1
          rw [hy] at f2
          have hxy := hle.out k hlt
          rw [hx, hy] at hxy
          have hk20 : (k : Int) < 20 := by omega
          clear hx hy
          cases x with
          | false =>
            clear hxy
            go_wp2
            go_roundw
            case rel => exact ⟨k + 1, by omega, by go_num, D, K⟩
            case measure => simp [intOf]; omega
          | true =>
            obtain rfl : y = true := hxy rfl
            clear hxy
            go_wp2
            go_roundw
            case rel => exact ⟨k + 1, by omega, by go_num, D, K⟩
            case measure => simp [intOf]; omega
        · have f3 := RDB.out 3 (by omega)
          rw [hb3.out] at f3
          go_wp2_with fail
          refine (lives_any _).mono ?_
          rintro e w11 ⟨rfl, B11⟩
          go_wp2
          go_ret
          exact ⟨rfl, below_step D B11 D.size⟩
end Go.Proofs.Ytcghkemfepnihaa
