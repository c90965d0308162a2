import Derived.Test.YtakpikoffbgjfaaRS
import Derived.Test.YtakpikoffbgjfaaLawAlone
namespace Go.Proofs.Ytakpikoffbgjfaa
open Go.RowKit Go.Maps

theorem E49 : ElemT Try.prog 49 53 1 24 := .mk' (z := .slice none 0 0) Try.underlying49 (by kernel_rfl) rfl (by omega)
/-- What stands when calls have been done: the box of the last call too. -/
structure Run (w : World) (bx : Nat) (cs : List Value) (wr : World) (p r : Nat) (c : Nat) (F G : Nat → Prop) (M : HM) (R : RM) : Prop where
  two : TwoW wr F G p r M R
  sm : SmallM c M
  sr : SmallR c R
  keys : KeysOk M
  new : ∀ k, F k ∨ G k → bx < k
  below : Below w.heap.size w wr
  box : Arr wr bx 45 cs
theorem Run.mem {w wr : World} {bx p r c : Nat} {cs : List Value} {F G : Nat → Prop} {M : HM} {R : RM} (h : Run w bx cs wr p r c F G M R) : ∃ tv fv qs, MemW wr F p M tv fv qs := h.two.h
theorem Run.on {w wr w' : World} {bx p r c : Nat} {cs : List Value} {F G : Nat → Prop} {M : HM} {R : RM} (h : Run w bx cs wr p r c F G M R) (hb : Below wr.heap.size wr w') : Run w bx cs w' p r c F G M R :=
  ⟨h.two.below hb, h.sm, h.sr, h.keys, h.new, below_step h.below hb h.below.size, h.box.below hb⟩
theorem Run.chg {w wr w' : World} {bx p r c : Nat} {cs : List Value} {F G Y : Nat → Prop} {M : HM} {R : RM} (h : Run w bx cs wr p r c F G M R) (hc : Chg Y wr w') (h1 : ∀ k, Y k → ¬ (F k ∨ G k)) (h2 : ¬ Y bx) (h3 : ∀ k, Y k → w.heap.size ≤ k) : Run w bx cs w' p r c F G M R := by
  obtain ⟨tv, fv, qs, hm⟩ := h.two.h
  obtain ⟨lv, rqs, hr⟩ := h.two.r
  exact ⟨⟨⟨tv, fv, qs, hm.chg hc (fun k hk hy => h1 k hy (.inl hk))⟩, ⟨lv, rqs, hr.chg hc (fun k hk hy => h1 k hy (.inr hk))⟩, h.two.d⟩, h.sm, h.sr, h.keys, h.new, Chg.newBelow h.below h.below.size hc h3, box_kept h.box hc h2⟩
theorem Run.step {w wr w0 w' : World} {bx p r c : Nat} {cs : List Value} {F G : Nat → Prop} {M : HM} {R : RM} {a : AC} {v : Value} {e : Ending} (hbx : w.heap.size ≤ bx) (h : Run w bx cs wr p r c F G M R) (hb : Below wr.heap.size wr w0) (hi : (Lit.int .i64 a.i).wf = true)
    (hd : TwoRes w0 F G p r (doesF a M R).2.1 (doesF a M R).2.2 v e w') : ∃ F' G', Run w bx cs w' p r (c + 1) F' G' (doesF a M R).2.1 (doesF a M R).2.2 ∧ e = .returned v := by
  obtain ⟨F', G', rfl, h1, h2, h3, h4⟩ := hd
  have hs := small_does h.sm h.sr a
  have hl := h.box.lt
  have hbs := hb.size
  refine ⟨F', G', ⟨h1, hs.1, hs.2, h.keys.does hi, fun k hk => ?_, Chg.newBelow (below_step h.below hb h.below.size) (by have := h.below.size; omega) h2 (fun k hk => by have := h.new k hk; omega), ?_⟩, rfl⟩
  · rcases hk with hk | hk
    · rcases h3 k hk with e | e
      · exact h.new k (.inl e)
      · omega
    · rcases h4 k hk with e | e
      · exact h.new k (.inr e)
      · omega
  · exact box_kept (h.box.below hb) h2 (fun hk => by have := h.new bx hk; omega)
set_option maxHeartbeats 8000000 in
set_option maxRecDepth 100000 in
theorem heapApart_walk (w : World) (v : Value) (l : List AC) (a : AC) (hrd : Rd w v l.length (acs l)) (hg : ∀ a ∈ l, a.good) (hga : a.good) :
    Calls Try.prog 5 #[v, ActV a] w fun e w' => e = .returned (.bool true) ∧ Below w.heap.size w w' := by
  obtain ⟨Av, cv, rfl, hcv1, hcv2⟩ := hrd.form
  have HR := Lib.hid hrd
  have HG := Lib.hid hg
  have HGA := Lib.hid hga
  clear hrd hg hga
  obtain ⟨ak, ar, ai, an, av, ast⟩ := a
  have hA0 := Arr.new w 45 #[I ak, I ar, I ai, I an, I av.n, .string av.s, I av.r, .bool ast]
  have HA0 := Lib.hid hA0
  have HB0 := Lib.hid (below_alloc w (.cells #[I ak, I ar, I ai, I an, I av.n, .string av.s, I av.r, .bool ast] 45))
  clear hA0
  go_enter Try.func5, Try.ntmps5
  go_wp2_with fail
  refine (new_any _ 1048576).mono ?_
  rintro e w1 ⟨p, F1, tv1, fv1, rfl, m1, b1, n1⟩
  have HM1 := Lib.hid m1
  have HB1 := Lib.hid b1
  have HN1 := Lib.hid n1
  clear m1 b1 n1
  go_wp2_with fail
  refine (rnew_any w1 1048576).mono ?_
  rintro e w2 ⟨r, G1, lv1, rfl, m2, b2, n2⟩
  have HRUN : Hid (Run w w.heap.size [I ak, I ar, I ai, I an, I av.n, .string av.s, I av.r, .bool ast] w2 p r 0 F1 G1 (M0 1048576) (rM0 1048576)) := by
    have hs0 := HB0.out.size
    have hs1 := HB1.out.size
    have hs2 := b2.size
    have hsz : (w.alloc (.cells #[I ak, I ar, I ai, I an, I av.n, .string av.s, I av.r, .bool ast] 45)).heap.size = w.heap.size + 1 := by simp
    refine Lib.hid ⟨⟨⟨_, _, _, HM1.out.below b2⟩, ⟨_, _, m2⟩, fun k hf hg => by have := HM1.out.lt k hf; have := n2 k hg; omega⟩, small_start.1, small_start.2, fun t ht => by simp [M0] at ht, fun k hk => ?_, below_step (below_step HB0.out HB1.out hs0) b2 (by omega), (HA0.out.below HB1.out).below b2⟩
    rcases hk with hk | hk
    · have := HN1.out k hk; omega
    · have := n2 k hk; omega
  clear m2 b2 n2 HM1 HB1 HN1 HA0 HB0
  go_wp2_with fail
  go_loopw [7] (fun i wr => ∃ (c : Nat) (F G : Nat → Prop) (M : HM) (R : RM), c ≤ l.length ∧ c ≤ 40 ∧ i = .int .i64 c ∧ Run w w.heap.size [I ak, I ar, I ai, I an, I av.n, .string av.s, I av.r, .bool ast] wr p r c F G M R) (fun i _ => l.length - (intOf i).toNat)
  case atStart => exact ⟨0, F1, G1, _, _, Nat.zero_le _, by omega, rfl, HRUN.out⟩
  case round =>
    obtain ⟨c, F, G, M, R, hc1, hc2, rfl, hrun⟩ := hrel
    have HRN := Lib.hid hrun
    clear hrun HRUN
    by_cases hlt : c < l.length ∧ c < 40
    · have hlt1 : (c : Int) < l.length := by omega
      have hlt2 : (c : Int) < 40 := by omega
      obtain ⟨b, hbb⟩ : ∃ b, l[c]? = some b := ⟨_, List.getElem?_eq_getElem hlt.1⟩
      obtain ⟨lb, lo, cap, ev, hb, hcell⟩ := act_cells (HR.out.below HRN.out.below) hbb
      cases ev
      have HGD := Lib.hid (HG.out b (List.mem_of_getElem? hbb))
      obtain ⟨bk, br, bi, bn, bv, bst⟩ := b
      have x0 : wr.cell? ⟨lb, lo + c * 8, none⟩ = some (I bk) := hcell 0 _ rfl
      have x1 : wr.cell? ⟨lb, lo + c * 8 + 1, none⟩ = some (I br) := hcell 1 _ rfl
      have x2 : wr.cell? ⟨lb, lo + c * 8 + 2, none⟩ = some (I bi) := hcell 2 _ rfl
      have x3 : wr.cell? ⟨lb, lo + c * 8 + 3, none⟩ = some (I bn) := hcell 3 _ rfl
      have x4 : wr.cell? ⟨lb, lo + c * 8 + 4, none⟩ = some (I bv.n) := hcell 4 _ rfl
      have x5 : wr.cell? ⟨lb, lo + c * 8 + 5, none⟩ = some (.string bv.s) := hcell 5 _ rfl
      have x6 : wr.cell? ⟨lb, lo + c * 8 + 6, none⟩ = some (I bv.r) := hcell 6 _ rfl
      have x7 : wr.cell? ⟨lb, lo + c * 8 + 7, none⟩ = some (.bool bst) := hcell 7 _ rfl
      have HLT := Lib.hid hlt
      clear hcell hbb hlt
      go_wp2_with fail
      refine (does_any _ F G p r M R ⟨bk, br, bi, bn, bv, bst⟩ HRN.out.two (small_okay HRN.out.sm HRN.out.sr (by omega)) HGD.out.1 HGD.out.2).mono ?_
      intro e w3 hd
      obtain ⟨F2, G2, hr2, rfl⟩ := HRN.out.step (Nat.le_refl _) (Below.refl _ _) HGD.out.1 hd
      have HR2 := Lib.hid hr2
      clear hd hr2
      go_wp2_with fail
      go_roundw
      case rel => exact ⟨c + 1, F2, G2, _, _, by have := HLT.out; omega, by have := HLT.out; omega, by go_num, HR2.out⟩
      case measure => have := HLT.out; simp [intOf]; omega
    · have hdis : (¬ (c : Int) < l.length) ∨ ((c : Int) < l.length ∧ ¬ (c : Int) < 40) := by omega
      obtain ⟨nl, hnl⟩ : ∃ n, R.l.length = n := ⟨_, rfl⟩
      have hnl40 : nl ≤ 40 := by have := HRN.out.sr.ll; omega
      have HNL := Lib.hid hnl
      have HW0 : Hid (Was (wr.alloc (.cells #[] 53)) w.heap.size (fun k => F k ∨ G k) (.slice (some ⟨wr.heap.size, 0, none⟩) 0 0) []) := by
        have hA := (Arr.new wr 53 #[]).own (sz := 1) w.heap.size 0 HRN.out.below.size rfl (Nat.zero_le _)
        refine Lib.hid ⟨[], rfl, hA, fun k hk hx => ?_, fun i v l hv => by simp at hv⟩
        cases hk
        have := HRN.out.two.lt wr.heap.size hx
        omega
      have HRN0 := Lib.hid (HRN.out.on (below_alloc wr (.cells #[] 53)))
      clear hlt HR HG hnl HRN
      rcases hdis with hlt1 | ⟨hlt1, hlt2⟩
      all_goals
        go_wp2_with fail
        go_loopw [8, 9] (fun u i w3 => ∃ k : Nat, k ≤ nl ∧ i = .int .i64 ((k : Int) + 1) ∧ Run w w.heap.size [I ak, I ar, I ai, I an, I av.n, .string av.s, I av.r, .bool ast] w3 p r c F G M R ∧ Was w3 w.heap.size (fun k => F k ∨ G k) u ((List.range k).map fun i : Nat => tellF M ((i : Int) + 1))) (fun _ i _ => nl + 1 - (intOf i).toNat)
        case atStart => exact ⟨0, Nat.zero_le _, rfl, HRN0.out, HW0.out⟩
        case round =>
          obtain ⟨k, hk, rfl, hrun, hwas⟩ := hrel
          obtain ⟨lv, rqs, hr⟩ := hrun.two.r
          have c0 := hr.cell.1
          have hrow := hr.row
          rw [HNL.out] at hrow
          obtain ⟨Al, cl, rfl, hcl1, hcl2⟩ := (Rd.of_own hrow).form
          obtain ⟨Au, cu, rfl, hcu1, hcu2⟩ := hwas.form
          have hlen : ((List.range k).map fun i : Nat => tellF M ((i : Int) + 1)).length = k := by simp
          rw [hlen] at hwas hcu1
          rw [hlen]
          have HRN := Lib.hid hrun
          have HWS := Lib.hid hwas
          clear hrun hwas hr hrow HRN0 HW0 hlen
          by_cases hlt : k < nl
          · have hlt1 : (k : Int) + 1 ≤ nl := by omega
            obtain ⟨tv, fv, qs, hm⟩ := HRN.out.mem
            have HM := Lib.hid hm
            have HLT := Lib.hid hlt
            clear hm hlt
            go_wp2_with fail
            refine (tell_any _ F p M tv fv qs ((k : Int) + 1) HM.out HRN.out.sm.sorted (by have := HRN.out.sm.fl; omega) (by have := HRN.out.sm.th; omega) HRN.out.keys).mono ?_
            rintro e w4 ⟨tvv, rfl, hown, hb4⟩
            obtain ⟨At, ct, rfl, hct1, hct2⟩ := (Rd.of_own hown).form
            have HR4 := Lib.hid (HRN.out.on hb4)
            obtain ⟨vs, g1, g2, g3, g4⟩ := (HWS.out.below hb4).ex
            have hlen : ((List.range k).map fun i : Nat => tellF M ((i : Int) + 1)).length = k := by simp
            have hB3 := HRN.out.below.size
            have hB4 := HR4.out.below.size
            have HOWN := Lib.hid (own_le hown hB3)
            have HLO := Lib.hid (fun k hk => (hown.lt k hk).1)
            have HLX : Hid (∀ k, F k ∨ G k → k < wr.heap.size) := Lib.hid (fun k hk => HRN.out.two.lt k hk)
            have G2 := Lib.hid g2
            have G1 := Lib.hid g1
            have G3 := Lib.hid g3
            have G4 := Lib.hid g4
            have HLEN := Lib.hid hlen
            clear hown g1 g2 g3 g4 hlen hb4
            have G2' : Hid (w4.ownsRow w.heap.size 53 1 (.slice Au k cu) k vs) := Lib.hid (by have := G2.out; rwa [HLEN.out] at this)
            go_wp2_with (at_builtin; refine wpl_append1 rfl _ _ _ rfl E49 rfl (G2'.out.alloc _) (u := .slice (some ⟨w4.heap.size, 0, none⟩) 1 1) (m := 1) (news := [.slice At (tellF M ((k : Int) + 1)).length ct]) rfl (Rd.fresh w4 #[.slice At (tellF M ((k : Int) + 1)).length ct] 53 1 1 (by omega) (by omega)) rfl (by simp [Value.oneCell']) (by omega) (by omega) (by simp only [maxLen]; omega) (by simp; omega) ?_; intro g' cap' w5 hap)
            have hwas5 : Was w5 w.heap.size (fun k => F k ∨ G k) (.slice (some ⟨g', 0, none⟩) (k + 1) cap') ((List.range (k + 1)).map fun i : Nat => tellF M ((i : Int) + 1)) := by
              rw [List.range_succ, List.map_append]
              exact Was.put (n := k + 1) G1.out G2.out G3.out G4.out (by simp) HOWN.out (fun b hb hx => by have h1 := HLO.out b hb; have h2 := HLX.out b hx; omega) (fun b hx => HR4.out.two.lt b hx) hap
            have hrun5 : Run w w.heap.size [I ak, I ar, I ai, I an, I av.n, .string av.s, I av.r, .bool ast] w5 p r c F G M R := by
              refine HR4.out.chg (((Chg.refl (fun b => (Value.slice Au k cu).ownBlock = some b) w4).alloc _).grown hap.grew (fun b e _ => e)) (fun b hb hx => G3.out b hb hx) (fun hb => ?_) (fun b hb => (G2'.out.lt b hb).1)
              obtain ⟨c1, e1⟩ := own_type G2'.out hb
              exact ne_type e1 HR4.out.box.out (by decide) rfl
            have HRUN5 := Lib.hid hrun5
            have HWAS5 := Lib.hid hwas5
            clear hrun5 hwas5 hap
            go_roundw
            case rel => exact ⟨k + 1, by have := HLT.out; omega, by go_num, HRUN5.out, HWAS5.out⟩
            case measure => have := HLT.out; simp [intOf]; omega
          · have hlt1 : ¬ (k : Int) + 1 ≤ nl := by omega
            obtain rfl : k = nl := by omega
            have hbx := HRN.out.box
            have y0 : wr.cell? ⟨w.heap.size, 0, none⟩ = some (I ak) := hbx.cell 0
            have z0 : wr.frozen? ⟨w.heap.size, 0, none⟩ = false := hbx.frozen 0
            clear hlt hbx
            go_upto_if 59 with fail
            clear c0
            go_cut [60] (fun s60 wx => Run w w.heap.size (toSet ⟨ak, ar, ai, an, av, ast⟩).cs wx p r c F G M R ∧ Was wx w.heap.size (fun k => F k ∨ G k) (.slice Au k cu) ((List.range k).map fun i : Nat => tellF M ((i : Int) + 1)))
            case first =>
              by_cases h6 : ak = 6
              · have hd : (ak != 6) = false := by simp [h6]
                have HT : Hid ((toSet ⟨ak, ar, ai, an, av, ast⟩).cs = [I ak, I ar, I ai, I an, I av.n, .string av.s, I av.r, .bool ast]) := Lib.hid (by rw [toSet, if_pos h6]; rfl)
                clear h6
                go_wp2_with fail
                go_meet
                case rel => rw [HT.out]; exact ⟨HRN.out, HWS.out⟩
              · have hd : (ak != 6) = true := ne_t h6
                have HT : Hid ((toSet ⟨ak, ar, ai, an, av, ast⟩).cs = [I 8, I ar, I ai, I an, I av.n, .string av.s, I av.r, .bool ast]) := Lib.hid (by rw [toSet, if_neg h6]; rfl)
                clear h6
                go_wp2_with fail
                go_meet
                case rel =>
                  rw [HT.out]
                  refine ⟨?_, HWS.out.other HRN.out.box.out (fun k hk => Below.heap_setCell _ _ _ _ hk)⟩
                  have h1 := HRN.out.box.set 0 (I 8)
                  have h2 : Chg (fun k => k = w.heap.size) wr (wr.setCell ⟨w.heap.size, 0, none⟩ (I 8)) := (Chg.refl (fun k => k = w.heap.size) wr).set (a := ⟨w.heap.size, 0, none⟩) rfl _
                  obtain ⟨tv, fv, qs, hm⟩ := HRN.out.two.h
                  obtain ⟨lv, rqs, hr⟩ := HRN.out.two.r
                  have hne : ∀ k, F k ∨ G k → k ≠ w.heap.size := fun k hk e => by have := HRN.out.new k hk; omega
                  exact ⟨⟨⟨tv, fv, qs, hm.chg h2 (fun k hk e => hne k (.inl hk) e)⟩, ⟨lv, rqs, hr.chg h2 (fun k hk e => hne k (.inr hk) e)⟩, HRN.out.two.d⟩, HRN.out.sm, HRN.out.sr, HRN.out.keys, HRN.out.new, Chg.newBelow HRN.out.below HRN.out.below.size h2 (fun k hk => Nat.le_of_eq hk.symm), h1⟩
            case rest =>
              obtain ⟨hrun, hwas⟩ := hcut
              obtain ⟨kk, hkk⟩ : ∃ kk, (toSet ⟨ak, ar, ai, an, av, ast⟩) = ⟨kk, ar, ai, an, av, ast⟩ := by
                unfold toSet; split
                · exact ⟨_, rfl⟩
                · exact ⟨_, rfl⟩
              have HKK := Lib.hid hkk
              have hcs : (toSet ⟨ak, ar, ai, an, av, ast⟩).cs = [I kk, I ar, I ai, I an, I av.n, .string av.s, I av.r, .bool ast] := by rw [hkk]; rfl
              rw [hcs] at hrun
              have hbx := hrun.box
              have y0 : wc.cell? ⟨w.heap.size, 0, none⟩ = some (I kk) := hbx.cell 0
              have y1 : wc.cell? ⟨w.heap.size, 1, none⟩ = some (I ar) := hbx.cell 1
              have y2 : wc.cell? ⟨w.heap.size, 2, none⟩ = some (I ai) := hbx.cell 2
              have y3 : wc.cell? ⟨w.heap.size, 3, none⟩ = some (I an) := hbx.cell 3
              have y4 : wc.cell? ⟨w.heap.size, 4, none⟩ = some (I av.n) := hbx.cell 4
              have y5 : wc.cell? ⟨w.heap.size, 5, none⟩ = some (.string av.s) := hbx.cell 5
              have y6 : wc.cell? ⟨w.heap.size, 6, none⟩ = some (I av.r) := hbx.cell 6
              have y7 : wc.cell? ⟨w.heap.size, 7, none⟩ = some (.bool ast) := hbx.cell 7
              have HRN2 := Lib.hid hrun
              have HWS2 := Lib.hid hwas
              clear hrun hwas hkk hcs hbx HRN HWS
              go_wp2_with fail
              refine (does_any _ F G p r M R ⟨kk, ar, ai, an, av, ast⟩ HRN2.out.two (small_okay HRN2.out.sm HRN2.out.sr (by omega)) HGA.out.1 HGA.out.2).mono ?_
              intro e w6 hd
              obtain ⟨F2, G2, hr2, rfl⟩ := HRN2.out.step (a := ⟨kk, ar, ai, an, av, ast⟩) (Nat.le_refl _) (Below.refl _ _) HGA.out.1 hd
              have HRN3 := Lib.hid hr2
              have HWS3 : Hid (Was w6 w.heap.size (fun _ => False) (.slice Au k cu) ((List.range k).map fun i : Nat => tellF M ((i : Int) + 1))) := by
                obtain ⟨F3, G3, _, _, q2, _, _⟩ := hd
                exact Lib.hid (HWS2.out.kept (fun j hj hx => q2.block j hj hx) (fun _ _ h => h.elim))
              obtain ⟨M2, hM2⟩ : ∃ M2, (doesF ⟨kk, ar, ai, an, av, ast⟩ M R).2.1 = M2 := ⟨_, rfl⟩
              obtain ⟨R2, hR2⟩ : ∃ R2, (doesF ⟨kk, ar, ai, an, av, ast⟩ M R).2.2 = R2 := ⟨_, rfl⟩
              have HTS : Hid (∀ q : Int, 1 ≤ q → q ≠ ar → tellF M2 q = tellF M q) := Lib.hid (fun q h1 h2 => by rw [← hM2, ← HKK.out]; exact toSet_tell _ M R h1 h2)
              rw [hM2, hR2] at HRN3
              clear hd hr2 y0 y1 y2 y3 y4 y5 y6 y7 hM2 hR2 HRN2 HWS2
              go_wp2_with fail
              go_loopw [12] (fun i w7 => ∃ j : Nat, j ≤ k ∧ i = .int .i64 ((j : Int) + 1) ∧ Run w w.heap.size [I kk, I ar, I ai, I an, I av.n, .string av.s, I av.r, .bool ast] w7 p r (c + 1) F2 G2 M2 R2 ∧ Was w7 w.heap.size (fun _ => False) (.slice Au k cu) ((List.range k).map fun i : Nat => tellF M ((i : Int) + 1))) (fun i _ => k + 1 - (intOf i).toNat)
              case atStart => exact ⟨0, Nat.zero_le _, rfl, HRN3.out, HWS3.out⟩
              case round =>
                obtain ⟨j, hj, rfl, hrun, hwas⟩ := hrel
                have HRN := Lib.hid hrun
                have HWS := Lib.hid hwas
                clear hrun hwas HRN3 HWS3
                by_cases hlt : j < k
                · have hlt1 : (j : Int) + 1 ≤ k := by omega
                  obtain ⟨tv, fv, qs, hm⟩ := HRN.out.mem
                  have HM := Lib.hid hm
                  have HLT := Lib.hid hlt
                  clear hm hlt
                  go_wp2_with fail
                  refine (tell_any _ F2 p M2 tv fv qs ((j : Int) + 1) HM.out HRN.out.sm.sorted (by have := HRN.out.sm.fl; omega) (by have := HRN.out.sm.th; omega) HRN.out.keys).mono ?_
                  rintro e w8 ⟨tvv, rfl, hown, hb8⟩
                  obtain ⟨At, ct, rfl, hct1, hct2⟩ := (Rd.of_own hown).form
                  have HR8 := Lib.hid (HRN.out.on hb8)
                  have HW8 := Lib.hid (HWS.out.below hb8)
                  have HOWN := Lib.hid hown
                  have y1 : w8.cell? ⟨w.heap.size, 1, none⟩ = some (I ar) := HR8.out.box.cell 1
                  clear hown hb8 HRN HWS HM
                  by_cases her : (j : Int) + 1 = ar
                  · have hd : ((j : Int) + 1 == ar) = true := by simpa using her
                    clear her
                    go_wp2_with fail
                    go_roundw
                    case rel => exact ⟨j + 1, by have := HLT.out; omega, by go_num, HR8.out, HW8.out⟩
                    case measure => have := HLT.out; simp [intOf]; omega
                  · have hd : ((j : Int) + 1 == ar) = false := by simpa using her
                    have hts := HTS.out ((j : Int) + 1) (by omega) her
                    obtain ⟨L, hL⟩ : ∃ L, tellF M ((j : Int) + 1) = L := ⟨_, rfl⟩
                    rw [hts, hL] at HOWN hct1
                    rw [hts, hL]
                    obtain ⟨gu, v2, rfl, hv2, hown2⟩ := HW8.out.row (i := j) (l := L) (by rw [List.getElem?_map, List.getElem?_range HLT.out]; simp [hL])
                    obtain ⟨A2, c2, rfl, hc21, hc22⟩ := (Rd.of_own hown2).form
                    have HOWN2 := Lib.hid hown2
                    have hjk : (j : Int) < k := by have := HLT.out; omega
                    obtain ⟨nL, hnL⟩ : ∃ n, L.length = n := ⟨_, rfl⟩
                    have HNL2 := Lib.hid hnL
                    rw [hnL] at hv2 HOWN2 HOWN hc21 hct1
                    rw [hnL]
                    clear her hts hL hown2 hnL
                    go_wp2_with fail
                    go_loopw [15] (fun i w9 => ∃ d q : Nat, d ≤ nL ∧ i = .int .i64 d ∧ w9 = w8.drewN q) (fun i _ => nL - (intOf i).toNat)
                    case atStart => exact ⟨0, 0, Nat.zero_le _, rfl, rfl⟩
                    case round =>
                      obtain ⟨d, q, hd9, rfl, rfl⟩ := hrel
                      by_cases hdl : d < nL
                      · have hdl1 : (d : Int) < nL := by omega
                        obtain ⟨ga, ca, ea, _, _⟩ := HOWN.out.form (by omega)
                        cases ea
                        obtain ⟨gb, cb, eb, _, _⟩ := HOWN2.out.form (by omega)
                        cases eb
                        obtain ⟨x, hx⟩ : ∃ x, L[d]? = some x := ⟨_, List.getElem?_eq_getElem (by rw [HNL2.out]; exact hdl)⟩
                        obtain ⟨a0, a1, a2⟩ := vvs_at L d x hx
                        have cl1 : ∀ (n : Nat) (u : Value), (vvs L)[n]? = some u → w8.cell? ⟨ga, n, none⟩ = some u := fun n u hu => by
                          have := HOWN.out.cells (g := ga) rfl n u hu
                          rwa [add_plain', Nat.zero_add] at this
                        have cl2 : ∀ (n : Nat) (u : Value), (vvs L)[n]? = some u → w8.cell? ⟨gb, n, none⟩ = some u := fun n u hu => by
                          have := HOWN2.out.cells (g := gb) rfl n u hu
                          rwa [add_plain', Nat.zero_add] at this
                        have e0 := cl1 _ _ a0
                        have e1 := cl1 _ _ a1
                        have e2 := cl1 _ _ a2
                        have f0 := cl2 _ _ a0
                        have f1 := cl2 _ _ a1
                        have f2 := cl2 _ _ a2
                        have hv3 : w8.cell? ⟨gu, j, none⟩ = some (.slice (some ⟨gb, 0, none⟩) nL c2) := hv2
                        have hwj : IntKind.i64.wrap (j : Int) = j := IntWalk.i64_in _ ⟨by omega, by omega⟩
                        have HDL := Lib.hid hdl
                        clear cl1 cl2 a0 a1 a2 hx hdl hv2
                        go_wp2_with fail
                        go_quiet (fail)
                        go_wp2_with fail
                        go_roundw
                        case rel => exact ⟨d + 1, q + nq, by have := HDL.out; omega, by go_num, rfl⟩
                        case measure => have := HDL.out; simp [intOf]; omega
                      · have hdl1 : ¬ (d : Int) < nL := by omega
                        clear hdl
                        go_wp2_with fail
                        go_roundw
                        case rel => exact ⟨j + 1, by have := HLT.out; omega, by go_num, HR8.out.on (below_drewN (Below.refl _ _) q), HW8.out.below (below_drewN (Below.refl _ _) q)⟩
                        case measure => have := HLT.out; simp [intOf]; omega
                · have hlt1 : ¬ (j : Int) + 1 ≤ k := by omega
                  clear hlt
                  go_wp2_with fail
                  refine (lives_any _).mono ?_
                  rintro e w9 ⟨rfl, hb9⟩
                  go_wp2
                  go_ret
                  exact ⟨rfl, below_step HRN.out.below hb9 HRN.out.below.size⟩
end Go.Proofs.Ytakpikoffbgjfaa
