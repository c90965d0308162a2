import Derived.Test.YtakpikoffbgjfaaHO
namespace Go.Proofs.Ytakpikoffbgjfaa
open Go.RowKit Go.Maps

/-- A memory of this call: all its blocks are new. -/
theorem Chg.newBelow {F : Nat → Prop} {B : Nat} {w0 w w' : World} (hb : Below B w0 w) (hB : B ≤ w.heap.size) (h : Chg F w w') (hF : ∀ k, F k → B ≤ k) : Below B w0 w' := hb.trans (h.below hF hB)
def LM1 : HM := ⟨[sliceT 2], [1], 1, 100, 24, 1⟩
def LM2 : HM := ⟨[sliceT 2, { sliceT 1 with frame := 1 }], [1], 1, 100, 24, 1⟩
def LM3 : HM := ⟨[sliceT 2, { sliceT 1 with frame := 1 }, tableT], [1], 1, 100, 32, 2⟩
def LM4 : HM := ⟨[sliceT 2, { sliceT 1 with frame := 1 }, putT tableT 5 7], [1], 1, 100, 48, 2⟩
theorem lm1 : sliceF (M0 100) 2 false = (LM1, 1, 0) := rfl
theorem lm2 : sliceF LM1 1 true = (LM2, 2, 0) := rfl
theorem lm3 : madeF LM2 tableT false = (LM3, 3, 0) := rfl
theorem lm4 : putF LM3 3 5 7 = (LM4, 0) := rfl
set_option maxHeartbeats 4000000 in
set_option maxRecDepth 100000 in
theorem lives_any (w : World) : Calls Try.prog 12 #[] w fun e w' => e = .returned (.bool true) ∧ Below w.heap.size w w' := by
  go_enter Try.func12, Try.ntmps12
  go_wp2_with fail
  refine (new_any w 100).mono ?_
  rintro e w1 ⟨p, F1, tv1, fv1, rfl, m1, b1, n1⟩
  have HM1 := Lib.hid m1
  have HB1 := Lib.hid b1
  have HN1 := Lib.hid n1
  have hs1 := b1.size
  clear m1 b1 n1
  go_wp2_with fail
  refine (slice_any w1 F1 p _ tv1 fv1 [] 2 false HM1.out ⟨⟨by decide, by decide, by decide⟩, by decide, by decide, by decide, by decide, by decide⟩).mono ?_
  rw [lm1]
  rintro e w2 ⟨F2, tv2, qs2, rfl, m2, c2, n2⟩
  have HN2 : Hid (∀ k, F2 k → w.heap.size ≤ k) := Lib.hid (fun k hk => (n2 k hk).elim (HN1.out k) (fun h => by omega))
  have HB2 : Hid (Below w.heap.size w w2) := Lib.hid (Chg.newBelow HB1.out hs1 c2 HN1.out)
  have hs2 := HB2.out.size
  have HM2 := Lib.hid m2
  clear m2 c2 n2
  go_wp2_with fail
  refine (slice_any w2 F2 p _ tv2 fv1 qs2 1 true HM2.out ⟨⟨by decide, by decide, by decide⟩, by decide, by decide, by decide, by decide, by decide⟩).mono ?_
  rw [lm2]
  rintro e w3 ⟨F3, tv3, qs3, rfl, m3, c3, n3⟩
  have HN3 : Hid (∀ k, F3 k → w.heap.size ≤ k) := Lib.hid (fun k hk => (n3 k hk).elim (HN2.out k) (fun h => by omega))
  have HB3 : Hid (Below w.heap.size w w3) := Lib.hid (Chg.newBelow HB2.out hs2 c3 HN2.out)
  have hs3 := HB3.out.size
  have HM3 := Lib.hid m3
  clear m3 c3 n3
  go_wp2_with fail
  refine (table_any w3 F3 p _ tv3 fv1 qs3 false HM3.out ⟨⟨by decide, by decide, by decide⟩, by decide, by decide, by decide, by decide, by decide⟩).mono ?_
  rw [lm3]
  rintro e w4 ⟨F4, tv4, qs4, rfl, m4, c4, n4⟩
  have HN4 : Hid (∀ k, F4 k → w.heap.size ≤ k) := Lib.hid (fun k hk => (n4 k hk).elim (HN3.out k) (fun h => by omega))
  have HB4 : Hid (Below w.heap.size w w4) := Lib.hid (Chg.newBelow HB3.out hs3 c4 HN3.out)
  have hs4 := HB4.out.size
  have HM4 := Lib.hid m4
  clear m4 c4 n4
  go_wp2_with fail
  refine (put_any w4 F4 p LM3 tv4 fv1 qs4 3 5 7 HM4.out (by simp [LM3]) (by decide) (by decide) ⟨by decide, by decide, by decide⟩ (by simp [LM3, sliceT, tableT]) (by decide) (by decide)).mono ?_
  rw [lm4]
  rintro e w5 ⟨F5, tv5, fv5, qs5, rfl, m5, c5, n5⟩
  have HN5 : Hid (∀ k, F5 k → w.heap.size ≤ k) := Lib.hid (fun k hk => (n5 k hk).elim (HN4.out k) (fun h => by omega))
  have HB5 : Hid (Below w.heap.size w w5) := Lib.hid (Chg.newBelow HB4.out hs4 c5 HN4.out)
  have HM5 := Lib.hid m5
  clear m5 c5 n5
  go_wp2_with fail
  refine (used_any w5 F5 p LM4 tv5 fv5 qs5 HM5.out).mono ?_
  rintro e w6 ⟨rfl, rfl⟩
  go_wp2_with fail
  refine (makes_any w5 F5 p LM4 tv5 fv5 qs5 HM5.out).mono ?_
  rintro e w6 ⟨rfl, rfl⟩
  go_wp2
  go_ret
  exact ⟨rfl, HB5.out⟩
end Go.Proofs.Ytakpikoffbgjfaa
