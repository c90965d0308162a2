import Derived.Test.YtakpikoffbgjfaaHR
namespace Go.Proofs.Ytakpikoffbgjfaa
open Go.RowKit Go.Maps

abbrev i8s (l : List Int) : List Value := l.map (.int .i8)
set_option maxHeartbeats 8000000 in
set_option maxRecDepth 100000 in
theorem heapTables_walk (w : World) (v : Value) (l : List Int) (hrd : Rd w v l.length (i8s l)) (hl8 : ∀ x ∈ l, -128 ≤ x ∧ x ≤ 127) :
    Calls Try.prog 4 #[v] w fun e w' => e = .returned (.bool true) ∧ Below w.heap.size w w' := by
  obtain ⟨Av, cv, rfl, hcv1, hcv2⟩ := hrd.form
  have HR := Lib.hid hrd
  have H8 := Lib.hid hl8
  clear hrd hl8
  go_enter Try.func4, Try.ntmps4
  go_wp2_with fail
  refine (new_any w 1048576).mono ?_
  rintro e w1 ⟨p, F1, tv1, fv1, rfl, m1, b1, n1⟩
  have HM1 := Lib.hid m1
  have HB1 := Lib.hid b1
  have HN1 := Lib.hid n1
  have hs1 := b1.size
  clear m1 b1 n1
  go_wp2_with fail
  refine (table_any w1 F1 p _ tv1 fv1 [] false HM1.out ⟨⟨by decide, by decide, by decide⟩, by decide, by decide, by decide, by decide, by decide⟩).mono ?_
  rw [tM_start]
  rintro e w2 ⟨F2, tv2, qs2, rfl, m2, c2, n2⟩
  have HS : Hid (SideE w (w2.alloc (.cells #[] 2)) p (tM [] (fun _ => 0)) 2 (.slice (some ⟨w2.heap.size, 0, none⟩) 0 0) []) := by
    have hB2 : Below w.heap.size w w2 := Chg.newBelow HB1.out hs1 c2 HN1.out
    have hs2 := hB2.size
    have hA := (Arr.new w2 2 #[]).own (sz := 1) w.heap.size 0 hs2 rfl (Nat.zero_le _)
    refine Lib.hid ⟨⟨F2, tv2, fv1, qs2, m2.below (below_alloc _ _), fun b hb => ?_, fun b hb hF => ?_⟩, hA, hB2.alloc hs2 _⟩
    · rcases n2 b hb with h | h
      · exact HN1.out b h
      · omega
    · cases hb
      have := m2.lt w2.heap.size hF
      omega
  clear m2 c2 n2 HM1 HB1 HN1
  go_wp2_with fail
  go_loopw [6, 7] (fun kv i wr => ∃ (c : Nat) (ks : List Int) (u : Int → Int), c ≤ l.length ∧ c ≤ 100 ∧ i = .int .i64 c ∧ ks.length ≤ c ∧ SideE w wr p (tM ks u) 2 kv ks) (fun _ i _ => l.length - (intOf i).toNat)
  case atStart => exact ⟨0, [], _, Nat.zero_le _, by omega, rfl, Nat.zero_le _, HS.out⟩
  case round =>
    obtain ⟨c, ks, u, hc1, hc2, rfl, hks, hS⟩ := hrel
    by_cases hlt : c < l.length ∧ c < 100
    · have hlt1 : (c : Int) < l.length := by omega
      have hlt2 : (c : Int) < 100 := by omega
      obtain ⟨x, hx⟩ : ∃ x, l[c]? = some x := ⟨_, List.getElem?_eq_getElem hlt.1⟩
      obtain ⟨hx1, hx2⟩ := H8.out x (List.mem_of_getElem? hx)
      obtain ⟨bl, ol, cl, el, _, hbl, gl⟩ := HR.out.elem (by simp; omega)
      cases el
      have f0 : wr.cell? ⟨bl, ol + c, none⟩ = some (.int .i8 x) := (hS.below.cell (p := ⟨bl, ol + c, none⟩) hbl).trans (gl _ _ (by simp [i8s, hx]))
      have hkl := hS.own
      obtain ⟨Ak, ck, rfl, hck1, hck2⟩ := (Rd.of_own hkl).form
      have HS2 := Lib.hid hS
      have HLT := Lib.hid hlt
      clear gl hS hkl hx hlt HS
      go_wp2_with fail
      go_loopw [9, 10] (fun b j wx => ∃ a : Nat, a ≤ ks.length ∧ j = .int .i64 a ∧ b = .bool (decide (x ∈ ks.take a)) ∧ wx = wr) (fun _ j _ => ks.length - (intOf j).toNat)
      case atStart => exact ⟨0, Nat.zero_le _, rfl, by simp, rfl⟩
      case round =>
        obtain ⟨a, ha, rfl, rfl, rfl⟩ := hrel
        by_cases hlt : a < ks.length
        · have hlt1 : (a : Int) < ks.length := by omega
          have hown := HS2.out.own
          obtain ⟨gk, ck', ek, _, _⟩ := hown.form (by omega)
          cases ek
          obtain ⟨y, hy⟩ : ∃ y, ks[a]? = some y := ⟨_, List.getElem?_eq_getElem hlt⟩
          have k0 := hown.cells (g := gk) rfl a (I y) (by simp [hy])
          rw [add_plain', Nat.zero_add] at k0
          have htk : decide (x ∈ ks.take (a + 1)) = (decide (x ∈ ks.take a) || (y == x)) := by
            rw [List.take_add_one, hy]
            by_cases h1 : x ∈ ks.take a
            · simp [h1]
            · by_cases h2 : y = x
              · simp [h2]
              · have : ¬ x = y := fun e => h2 e.symm
                simp [h1, h2, this]
          have HTK := Lib.hid htk
          have HL2 := Lib.hid hlt
          obtain ⟨q, hq⟩ : ∃ q, decide (x ∈ ks.take a) = q := ⟨_, rfl⟩
          have HQ := Lib.hid hq
          rw [hq]
          clear hown hy htk hlt hq
          cases q with
          | true =>
            go_wp2_with fail
            go_roundw
            case rel => exact ⟨a + 1, by have := HL2.out; omega, by go_num, by rw [HTK.out, HQ.out]; rfl, trivial⟩
            case measure => have := HL2.out; simp [intOf]; omega
          | false =>
            go_wp2_with fail
            go_roundw
            case rel => exact ⟨a + 1, by have := HL2.out; omega, by go_num, by rw [HTK.out, HQ.out, Bool.false_or], trivial⟩
            case measure => have := HL2.out; simp [intOf]; omega
        · obtain rfl : a = ks.length := by omega
          clear hlt ha
          rw [List.take_length]
          obtain ⟨q, hq⟩ : ∃ q, decide (x ∈ ks) = q := ⟨_, rfl⟩
          rw [hq]
          have HQ := Lib.hid hq
          clear hq
          go_upto_if 60 with fail
          go_cut [6] (fun s6 wx => SideE w wx p (tM ks u) 2 s6 (addK ks x))
          case first =>
            cases q with
            | true =>
              have hin : x ∈ ks := of_decide_eq_true HQ.out
              have hadd : addK ks x = ks := if_pos hin
              have HADD := Lib.hid hadd
              clear hin hadd
              go_wp2_with fail
              go_meet
              case rel => rw [HADD.out]; exact HS2.out
            | false =>
              have hin : ¬ x ∈ ks := of_decide_eq_false HQ.out
              have hadd : addK ks x = ks ++ [x] := if_neg hin
              have HADD := Lib.hid hadd
              have hso := HS2.out.below.size
              clear hin hadd
              go_wp2_with (at_builtin; refine wpl_append1 rfl _ _ _ rfl E36 rfl (HS2.out.own.alloc _) (u := .slice (some ⟨wr.heap.size, 0, none⟩) 1 1) (m := 1) (news := [I x]) rfl (Rd.fresh wr #[I x] 2 1 1 (by omega) (by omega)) rfl (by simp [Value.oneCell']) (by omega) (by omega) (by simp only [maxLen]; omega) (by simp; omega) ?_; intro g' cap' w4 hap)
              go_meet
              case rel => rw [HADD.out]; exact HS2.out.put rfl hap
          case rest =>
            have hS := hcut
            obtain ⟨⟨F, tv, fv, qs, hm, hnw, ha⟩, hl, hb⟩ := hS
            have HM := Lib.hid hm
            have HNW := Lib.hid hnw
            have HA := Lib.hid ha
            have HL := Lib.hid hl
            have HB := Lib.hid hb
            have hxw : (Lit.int .i64 x).wf = true := wf64 ⟨by simp [IntKind.min, IntKind.signed, IntKind.bits]; omega, by simp [IntKind.max, IntKind.signed, IntKind.bits]; omega⟩
            have hcw : (Lit.int .i64 (c : Int)).wf = true := wf64 ⟨by simp [IntKind.min, IntKind.signed, IntKind.bits], by simp [IntKind.max, IntKind.signed, IntKind.bits]; omega⟩
            have HXW := Lib.hid hxw
            clear hm hnw ha hl hb hcut HS2
            go_wp2_with fail
            refine (put_any _ F p (tM ks u) tv fv qs 1 x c HM.out (by simp [tM]) (by simp [tM]) (by simp [tM]) (tM_calm ks u (by omega)) (by intro t ht; rcases List.mem_singleton.1 ht with rfl; show ks.length ≤ _; omega) hxw hcw).mono ?_
            rw [tM_put (by omega)]
            rintro e w3 ⟨F3, tv3, fv3, qs3, rfl, hm3, hc3, hn3⟩
            obtain ⟨⟨F, tv, fv, qs, hm, hnw, ha⟩, hl, hb⟩ := SideE.step HL.out HB.out HNW.out HA.out hm3 hc3 hn3
            have HM3 := Lib.hid hm
            have HNW3 := Lib.hid hnw
            have HA3 := Lib.hid ha
            have HL3 := Lib.hid hl
            have HB3 := Lib.hid hb
            clear hm hnw ha hl hb hm3 hc3 hn3 HM HNW HA HL HB hxw hcw
            go_wp2_with fail
            refine (look_any _ F p _ tv fv qs 1 x HM3.out (by simp [tM]) (by simp [tM]) (by simp [tM]) HXW.out).mono ?_
            rw [tM_look, if_pos rfl]
            rintro e w4 ⟨q, rfl, rfl⟩
            have HS4 : Hid (SideE w (w3.drewN q) p (tM (addK ks x) (fun y => if y = x then (c : Int) else u y)) 2 u6 (addK ks x)) := Lib.hid ⟨⟨F, tv, fv, qs, HM3.out.drewN q, HNW3.out, HA3.out⟩, HL3.out, below_drewN HB3.out q⟩
            go_wp2_with fail
            go_roundw
            case rel => exact ⟨c + 1, addK ks x, _, by have := HLT.out; omega, by have := HLT.out; omega, by go_num, by have := addK_len ks x; omega, HS4.out⟩
            case measure => have := HLT.out; simp [intOf]; omega
    · have hdis : (¬ (c : Int) < l.length) ∨ ((c : Int) < l.length ∧ ¬ (c : Int) < 100) := by omega
      obtain ⟨Ak, ck, rfl, hck1, hck2⟩ := (Rd.of_own hS.own).form
      have HS2 := Lib.hid hS
      clear hlt HS hS HR H8
      rcases hdis with hlt1 | ⟨hlt1, hlt2⟩
      all_goals
        go_wp2_with fail
        go_loopw [13] (fun j wx => ∃ a : Nat, a ≤ ks.length ∧ j = .int .i64 a ∧ SideE w wx p (tM ks u) 2 (.slice Ak ks.length ck) ks) (fun j _ => ks.length - (intOf j).toNat)
        case atStart => exact ⟨0, Nat.zero_le _, rfl, HS2.out⟩
        case round =>
          obtain ⟨a, ha, rfl, hS⟩ := hrel
          obtain ⟨⟨F, tv, fv, qs, hm, hnw, hap⟩, hl, hb⟩ := hS
          have HM := Lib.hid hm
          have HNW := Lib.hid hnw
          have HA := Lib.hid hap
          have HL := Lib.hid hl
          have HB := Lib.hid hb
          clear hm hnw hap hl hb HS2
          by_cases hlt : a < ks.length
          · have hlt1 : (a : Int) < ks.length := by omega
            obtain ⟨gk, ck', ek, _, _⟩ := HL.out.form (by omega)
            cases ek
            obtain ⟨y, hy⟩ : ∃ y, ks[a]? = some y := ⟨_, List.getElem?_eq_getElem hlt⟩
            have k0 := HL.out.cells (g := gk) rfl a (I y) (by simp [hy])
            rw [add_plain', Nat.zero_add] at k0
            have HY := Lib.hid hy
            have HLT := Lib.hid hlt
            have HK0 := Lib.hid k0
            clear hy hlt k0
            go_wp2_with fail
            refine (key_any _ F p _ tv fv qs 1 a HM.out (by simp [tM]) (by simp [tM]) (by simp [tM])).mono ?_
            rw [tM_key HY.out]
            rintro e w4 ⟨q, rfl, rfl⟩
            have k0 : (wr.drewN q).cell? ⟨gk, a, none⟩ = some (I y) := HK0.out
            have HS4 : Hid (SideE w (wr.drewN q) p (tM ks u) 2 (.slice (some ⟨gk, 0, none⟩) ks.length ck) ks) := Lib.hid ⟨⟨F, tv, fv, qs, HM.out.drewN q, HNW.out, HA.out⟩, HL.out, below_drewN HB.out q⟩
            go_wp2_with fail
            go_roundw
            case rel => exact ⟨a + 1, by have := HLT.out; omega, by go_num, HS4.out⟩
            case measure => have := HLT.out; simp [intOf]; omega
          · have hlt1 : ¬ (a : Int) < ks.length := by omega
            clear hlt
            go_wp2_with fail
            refine (size_any _ F p _ tv fv qs 1 HM.out (by simp [tM]) (by simp [tM]) (by simp [tM])).mono ?_
            rintro e w4 ⟨q, rfl, rfl⟩
            rw [tM_size]
            go_wp2_with fail
            refine (key_any _ F p _ tv fv qs 1 _ (HM.out.drewN q) (by simp [tM]) (by simp [tM]) (by simp [tM])).mono ?_
            rw [tM_nokey]
            rintro e w4 ⟨q2, rfl, rfl⟩
            go_wp2_with fail
            refine (used_any _ F p _ tv fv qs (HM.out.drewN (q + q2))).mono ?_
            rintro e w4 ⟨rfl, rfl⟩
            have hu : (tM ks u).used = 8 + 16 * (ks.length : Int) := rfl
            rw [hu]
            go_wp2_with fail
            refine (lives_any _).mono ?_
            rintro e w5 ⟨rfl, hb5⟩
            go_wp2
            go_ret
            exact ⟨rfl, below_step (below_drewN HB.out (q + q2)) hb5 HB.out.size⟩
end Go.Proofs.Ytakpikoffbgjfaa
