import Derived.Test.YtcghkemfepnihaaRefReach
import Derived.Test.YtcghkemfepnihaaOpen
namespace Go.Proofs.Ytcghkemfepnihaa
open Go.RowKit

theorem badE_turn (n : Int) (E : List (Int × Int)) : badE n (turnF E) = badE n E := by
  rw [badE, badE, turnF, List.any_map]
  congr 1
  funext p
  simp [Bool.or_comm]
theorem fit_turn (n : Int) (E : List (Int × Int)) (S : List Int) : fitF n (turnF E) S = fitF n E S := by simp only [fitF, badE_turn]
theorem map_turn_true (E : List (Int × Int)) : E.map (turnB true) = turnF E := rfl
theorem reach_same {n : Int} {E E' : List (Int × Int)} {S : List Int} {b b' : Bool} {o o' : List Bool} (hE : E.map (turnB b) = E'.map (turnB b')) (hf : fitF n E' S = fitF n E S)
    (h0 : fitF n E S ≠ 0 → o = []) (h1 : ∀ m : Nat, n = m → fitF n E S = 0 → RchOut (E.map (turnB b)) S m o)
    (h0' : fitF n E' S ≠ 0 → o' = []) (h1' : ∀ m : Nat, n = m → fitF n E' S = 0 → RchOut (E'.map (turnB b')) S m o') : sameB o o' = true := by
  simp only [sameB, decide_eq_true_eq]
  by_cases h : fitF n E S = 0
  · obtain ⟨m, rfl, _, _⟩ := fits_of h
    have a := h1 m rfl h
    have b := h1' m rfl (by rw [hf]; exact h)
    rw [← hE] at b
    exact rchOut_unique a b
  · rw [h0 h, h0' (by rw [hf]; exact h)]

set_option maxHeartbeats 4000000 in
set_option maxRecDepth 100000 in
theorem flowReach_walk (w : World) (n : Int) (v1 v2 : Value) (E0 : List (Int × Int)) (S : List Int) (h1 : Rd w v1 E0.length (pairs E0)) (h2 : Rd w v2 S.length (ints S)) (hb : S.length * 8 ≤ 140737488351232) :
    Calls Try.prog 4 #[I n, v1, v2] w fun e w' => e = .returned (.bool true) ∧ Below w.heap.size w w' := by
  have HS := Lib.hid h2
  have HE0 := Lib.hid h1
  clear h1 h2
  go_enter Try.func4, Try.ntmps4
  go_wp2_with fail
  refine (few_any _ _ E0 HE0.out).mono ?_
  rintro e w' ⟨ve, rfl, rfl, hE⟩
  have hl := fewE_length E0
  generalize fewE E0 = E at hE hl
  have HE := Lib.hid hE
  clear hE
  -- own(edges), a copy of from, Reach
  go_wp2_with fail
  refine (own_any _ _ E HE.out (by omega)).mono ?_
  rintro e w1 ⟨r1, rfl, hr1, B1⟩
  have HR1 := Lib.hid (Rd.of_own hr1)
  have HS1 := Lib.hid ((HS.out.below B1).alloc (.cells #[] 3))
  have HO1 := Lib.hid (own_start w1 3 1)
  clear hr1
  go_wp2_with (at_builtin; refine wpl_append rfl _ _ _ rfl E26 rfl HO1.out rfl HS1.out (by simp) (ints_one _) (by omega) (by simp only [maxLen]; omega) (by simp) ?_; intro c1 w2 hap1)
  have C2 : Below w1.heap.size w1 w2 := hap1.below (below_alloc _ _) HO1.out (Nat.le_refl _) (by simp)
  have D2 : Below w.heap.size w w2 := below_step B1 C2 B1.size
  have HC1 : Hid (Rd w2 c1 S.length (ints S)) := Lib.hid (by simpa using Rd.of_own hap1.own)
  have HR1' := Lib.hid (HR1.out.below C2)
  clear hap1 HO1 HS1 HR1 C2 B1
  refine (reach_any _ n _ _ E S HR1'.out HC1.out (by omega) (by omega)).mono ?_
  rintro e w3 ⟨ra, oa, rfl, ha, B3, ha0, ha1⟩
  have D3 : Below w.heap.size w w3 := below_step D2 B3 D2.size
  have HA3 := Lib.hid ha
  have HA0 := Lib.hid ha0
  have HA1 := Lib.hid ha1
  clear ha ha0 ha1 HC1 HR1' D2 B3
  -- the reference
  go_wp2_with fail
  refine (refreach_any _ n _ _ E S (HE.out.below D3) (HS.out.below D3)).mono ?_
  rintro e w4 ⟨rb, ob, rfl, hb', B4, hb0, hb1⟩
  have D4 : Below w.heap.size w w4 := below_step D3 B4 D3.size
  have HA4 := Lib.hid (HA3.out.below B4)
  have HB4 := Lib.hid hb'
  have HAB : Hid (sameB oa ob = true) := Lib.hid (reach_same rfl rfl HA0.out HA1.out hb0 hb1)
  clear hb' hb0 hb1 HA0 HA1 HA3 D3 B4
  -- own(edges), a copy of from, Back
  go_wp2_with fail
  refine (own_any _ _ E (HE.out.below D4) (by omega)).mono ?_
  rintro e w5 ⟨r5, rfl, hr5, B5⟩
  have D5 : Below w.heap.size w w5 := below_step D4 B5 D4.size
  have HA5 := Lib.hid (HA4.out.below B5)
  have HB5 := Lib.hid (HB4.out.below B5)
  have HR5 := Lib.hid (Rd.of_own hr5)
  have HS5 := Lib.hid ((HS.out.below D5).alloc (.cells #[] 3))
  have HO5 := Lib.hid (own_start w5 3 1)
  clear hr5 HA4 HB4 D4 B5
  go_wp2_with (at_builtin; refine wpl_append rfl _ _ _ rfl E26 rfl HO5.out rfl HS5.out (by simp) (ints_one _) (by omega) (by simp only [maxLen]; omega) (by simp) ?_; intro c6 w6 hap6)
  have C6 : Below w5.heap.size w5 w6 := hap6.below (below_alloc _ _) HO5.out (Nat.le_refl _) (by simp)
  have D6 : Below w.heap.size w w6 := below_step D5 C6 D5.size
  have HC6 : Hid (Rd w6 c6 S.length (ints S)) := Lib.hid (by simpa using Rd.of_own hap6.own)
  have HR6 := Lib.hid (HR5.out.below C6)
  have HA6 := Lib.hid (HA5.out.below C6)
  have HB6 := Lib.hid (HB5.out.below C6)
  clear hap6 HO5 HS5 HR5 C6 D5 HA5 HB5
  refine (back_any _ n _ _ E S HR6.out HC6.out (by omega) (by omega)).mono ?_
  rintro e w7 ⟨rc, oc, rfl, hc, B7, hc0, hc1⟩
  have D7 : Below w.heap.size w w7 := below_step D6 B7 D6.size
  have HA7 := Lib.hid (HA6.out.below B7)
  have HB7 := Lib.hid (HB6.out.below B7)
  have HC7 := Lib.hid hc
  have HC0 := Lib.hid hc0
  have HC1 := Lib.hid hc1
  clear hc hc0 hc1 HC6 HR6 HA6 HB6 D6 B7
  -- the reference over the edges turned
  go_wp2_with fail
  refine (turned_any _ _ E (HE.out.below D7) (by omega)).mono ?_
  rintro e w8 ⟨r8, rfl, hr8, B8⟩
  have D8 : Below w.heap.size w w8 := below_step D7 B8 D7.size
  have HR8 := Lib.hid (Rd.of_own hr8)
  have HA8 := Lib.hid (HA7.out.below B8)
  have HB8 := Lib.hid (HB7.out.below B8)
  have HC8 := Lib.hid (HC7.out.below B8)
  clear hr8 HA7 HB7 HC7 D7 B8
  go_wp2_with fail
  refine (refreach_any _ n _ _ (turnF E) S HR8.out (HS.out.below D8)).mono ?_
  rintro e w9 ⟨rd, od, rfl, hd, B9, hd0, hd1⟩
  have D9 : Below w.heap.size w w9 := below_step D8 B9 D8.size
  have HA9 := Lib.hid (HA8.out.below B9)
  have HB9 := Lib.hid (HB8.out.below B9)
  have HC9 := Lib.hid (HC8.out.below B9)
  have HD9 := Lib.hid hd
  have HCD : Hid (sameB oc od = true) := Lib.hid (reach_same (by rw [map_turn_true, map_turn_false]) (fit_turn n E S) HC0.out HC1.out hd0 hd1)
  rw [fit_turn]
  clear hd hd0 hd1 HC0 HC1 HA8 HB8 HC8 HR8 D8 B9
  have s1 := HAB.out
  have s2 := HCD.out
  go_wp2_with fail
  refine (same_any _ _ _ oa ob HA9.out HB9.out).mono ?_
  rintro e w10 ⟨rfl, B10⟩
  have D10 : Below w.heap.size w w10 := below_step D9 B10 D9.size
  have HC10 := Lib.hid (HC9.out.below B10)
  have HD10 := Lib.hid (HD9.out.below B10)
  clear HA9 HB9 HC9 HD9 D9 B10
  go_wp2_with fail
  refine (same_any _ _ _ oc od HC10.out HD10.out).mono ?_
  rintro e w11 ⟨rfl, B11⟩
  have D11 : Below w.heap.size w w11 := below_step D10 B11 D10.size
  go_wp2_with fail
  refine (lives_any _).mono ?_
  rintro e w12 ⟨rfl, B12⟩
  go_wp2
  go_ret
  exact ⟨rfl, below_step D11 B12 D11.size⟩
end Go.Proofs.Ytcghkemfepnihaa
