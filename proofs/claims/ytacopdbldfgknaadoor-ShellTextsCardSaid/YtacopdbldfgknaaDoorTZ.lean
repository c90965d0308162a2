/- Whether a program is small: the walk. -/
import Derived.Test.YtacopdbldfgknaaDoorTJ
namespace Go.Proofs.YtacopdbldfgknaaDoor
open Go Go.RowKit PShellTexts YtacopdbldfgknaaDoorW.PrintWords YtacopdbldfgknaaDoorW.PrintMore YtacopdbldfgknaaDoorW.PrintLast

/-- n is a sum so far; if it is at most 1000, Q. -/
def St (n : Int) (Q : Prop) : Prop := 0 ≤ n ∧ n ≤ 1000000000000000 ∧ (n ≤ 1000 → Q)
theorem St.step {n : Int} {Q Q' : Prop} (h : St n Q) (hn : n ≤ 1000) {L : Int} (h0 : 0 ≤ L) (h1 : L ≤ 600000000000000) (hQ : Q → L ≤ 1000 → Q') : St (n + L) Q' := by
  obtain ⟨a, b, c⟩ := h
  exact ⟨by omega, by omega, fun h => hQ (c hn) (by omega)⟩
theorem St.exit {n : Int} {Q Q' : Prop} (h : St n Q) (hQ : n ≤ 1000 → Q → Q') : St n Q' := ⟨h.1, h.2.1, fun hn => hQ hn (h.2.2 hn)⟩
def Q0 (p : S26) : Prop := p.f0.length ≤ 1000 ∧ p.f1.length ≤ 1000 ∧ p.f2.length ≤ 1000
def Q1 (p : S26) (k : Nat) : Prop := Q0 p ∧ ∀ j, j < k → (p.f0.getD j z36).f0.length ≤ 1000
def Q2 (p : S26) (k : Nat) : Prop := Q1 p p.f0.length ∧ ∀ j, j < k → (p.f1.getD j z38).f0.length ≤ 1000 ∧ (p.f1.getD j z38).f1.length ≤ 1000
def opS (o : S48) : Prop := o.f6.length ≤ 1000 ∧ o.f5.size ≤ 8007
def blkL (b : S46) : Prop := b.f0.length ≤ 1000 ∧ b.f1.length ≤ 1000 ∧ b.f2.f4.length ≤ 1000 ∧ b.f2.f5.length ≤ 1000
def blkS (b : S46) (m : Nat) : Prop := blkL b ∧ ∀ j, j < m → opS (b.f1.getD j z48)
def funS (f : S41) (m : Nat) : Prop := f.f1.length ≤ 1000 ∧ ∀ j, j < m → blkS (f.f1.getD j z46) (f.f1.getD j z46).f1.length
def Q3 (p : S26) (k : Nat) : Prop := Q2 p p.f1.length ∧ ∀ j, j < k → funS (p.f2.getD j z41) (p.f2.getD j z41).f1.length
theorem lt_succ_all {P : Nat → Prop} {k : Nat} (h : ∀ j, j < k → P j) (hk : P k) : ∀ j, j < k + 1 → P j := fun j hj => by
  by_cases e : j = k
  · exact e ▸ hk
  · exact h j (by omega)
theorem mem_getD {α : Type} {l : List α} {x : α} (d : α) (h : x ∈ l) : ∃ j, j < l.length ∧ l.getD j d = x := by
  obtain ⟨j, hj, rfl⟩ := List.mem_iff_getElem.1 h
  exact ⟨j, hj, by simp [hj]⟩
theorem okP_of {p : S26} (hg : gP p) (h : Q3 p p.f2.length) : okP p := by
  obtain ⟨⟨⟨⟨a0, a1, a2⟩, b⟩, c⟩, d⟩ := h
  refine ⟨fun x hx => ?_, fun x hx => ?_, fun x hx => ?_, a0, a1, a2⟩
  · obtain ⟨j, hj, rfl⟩ := mem_getD z36 hx
    exact ⟨⟨(hg.s _ hx).1.1, b j hj⟩, (hg.s _ hx).2⟩
  · obtain ⟨j, hj, rfl⟩ := mem_getD z38 hx
    exact ⟨⟨(hg.c _ hx).1.1, (c j hj).1⟩, ⟨(hg.c _ hx).2.1, (c j hj).2⟩⟩
  · obtain ⟨j, hj, rfl⟩ := mem_getD z41 hx
    have hf := hg.f _ hx
    obtain ⟨e0, e1⟩ := d j hj
    refine ⟨hf.1, fun b hb => ?_, e0⟩
    have hb' := hf.2.1 b hb
    obtain ⟨i, hi, rfl⟩ := mem_getD z46 hb
    obtain ⟨⟨l0, l1, l2, l3⟩, lo⟩ := e1 i hi
    obtain ⟨g0, ⟨g1, _⟩, g2, g3, g4, g5, g6, g7⟩ := hb'
    refine ⟨⟨g0.1, l0⟩, fun o ho => ?_, l1, ⟨g2, g3, g4, g5, ⟨g6.1, l2⟩, ⟨g7.1, l3⟩⟩⟩
    obtain ⟨q, hq, rfl⟩ := mem_getD z48 ho
    obtain ⟨k0, k1, k2, k3, k4, k5, k6⟩ := g1 _ ho
    exact ⟨k0, k1, k2, k3, k4, (lo q hq).2, ⟨k6.1, (lo q hq).1⟩⟩
def SmallRes (p : S26) (w : World) (e : Ending) (w' : World) : Prop := ∃ r : Bool, e = .returned (.bool r) ∧ (r = true → okP p) ∧ Hid (Below w.heap.size w w')
theorem wr64 (x : Int) (h0 : 0 ≤ x) (h1 : x ≤ 9223372036854775807) : IntKind.i64.wrap x = x := IntWalk.i64_in _ (by omega)
set_option maxHeartbeats 8000000 in
set_option maxRecDepth 100000 in
theorem small_any (w : World) (bp : Nat) (p : S26) (hp : PM w bp p) (hg : gP p) : Calls Tryd.prog 4 #[.pointer (some ⟨bp, 0, none⟩), I 1000] w (SmallRes p w) := by
  obtain ⟨A0, c0, A1, c1, A2, c2, ⟨hc0, hc1, hc2⟩, ⟨hl0, hg0⟩, ⟨hl1, hg1⟩, ⟨hl2, hg2⟩⟩ := hp.out
  have HG := Lib.hid hg
  have HG0 := Lib.hid hg0
  have HG1 := Lib.hid hg1
  have HG2 := Lib.hid hg2
  have HC0 := Lib.hid hc0
  have HC1 := Lib.hid hc1
  have HC2 := Lib.hid hc2
  have hs := hg.ls
  have hc := hg.lc
  have hf := hg.lf
  rw [reach_eq] at hs hc hf
  clear hp hg hg0 hg1 hg2
  have hw1 := wr64 ((p.f0.length : Int) + (p.f1.length : Int)) (by omega) (by omega)
  have hw2 := wr64 ((p.f0.length : Int) + (p.f1.length : Int) + (p.f2.length : Int)) (by omega) (by omega)
  go_enter Tryd.func4, Tryd.ntmps4
  go_upto_region 3 with fail
  go_quiet (fail)
  clear hw1 hw2 hc0 hc1 hc2
  have HS0 : Hid (St ((p.f0.length : Int) + (p.f1.length : Int) + (p.f2.length : Int)) (Q0 p)) := Lib.hid ⟨by omega, by omega, fun h => ⟨by omega, by omega, by omega⟩⟩
  obtain ⟨n0, hn0⟩ : ∃ n0 : Int, (p.f0.length : Int) + (p.f1.length : Int) + (p.f2.length : Int) = n0 := ⟨_, rfl⟩
  rw [hn0] at HS0 ⊢
  clear hn0
  have HB0 : Hid (Below w.heap.size w (w.drewN nq)) := Lib.hid (below_drewN (Below.refl _ _) nq)
  obtain ⟨wa, hwa⟩ : ∃ wa, w.drewN nq = wa := ⟨_, rfl⟩
  rw [hwa] at HB0 ⊢
  clear hwa
  go_upto_block 0 with fail
  go_cut [5] (fun v5 wx => ∃ n : Int, v5 = I n ∧ Hid (St n (Q1 p p.f0.length)) ∧ Hid (Below w.heap.size w wx))
  case first =>
    go_upto_block 1 with fail
    go_loopw [5, 6] (fun v5 v6 wr => ∃ (k : Nat) (n : Int), k ≤ p.f0.length ∧ v6 = I k ∧ v5 = I n ∧ Hid (St n (Q1 p k)) ∧ Hid (Below w.heap.size w wr)) (fun _ v6 _ => p.f0.length - (intOf v6).toNat)
    case atStart => exact ⟨0, n0, Nat.zero_le _, rfl, rfl, Lib.hid (HS0.out.exit fun _ h => ⟨h, fun j hj => absurd hj (Nat.not_lt_zero _)⟩), HB0⟩
    case round =>
      obtain ⟨k, n, hk, rfl, rfl, HS, HB⟩ := hrel
      clear HS0 HB0
      have hca := cell_b HC0.out HB.out
      have hn0 := HS.out.1
      have hn1 := HS.out.2.1
      by_cases hlt : k < p.f0.length
      · by_cases hn : n ≤ 1000
        · obtain ⟨ad, A8, c8, e, hx0, hx1, hl8, hi8⟩ := at_T36 HG0.out (k : Int) (by omega) (by omega)
          subst e
          replace hx0 := cell_b hx0 HB.out
          have hgl := (getD_ok HG.out.s (d := z36) hlt).1.2
          rw [reach_eq] at hgl
          rw [Int.toNat_natCast] at hx0
          have HQ : Hid (Q1 p k → ((p.f0.getD k z36).f0.length : Int) ≤ 1000 → Q1 p (k + 1)) := Lib.hid fun h hl => ⟨h.1, lt_succ_all h.2 (by omega)⟩
          obtain ⟨L, hL⟩ : ∃ L, (p.f0.getD k z36).f0.length = L := ⟨_, rfl⟩
          rw [hL] at hx0 hgl HQ
          clear hi8 hl8 hx1 hL
          have HSN := Lib.hid (HS.out.step hn (L := (L : Int)) (by omega) (by omega) HQ.out)
          go_wp2_with fail
          go_roundw
          case rel => exact ⟨k + 1, n + L, by omega, by go_num, rfl, HSN, HB⟩
          case measure => simp [intOf]; omega
        · have hn : 1000 < n := by omega
          go_wp2_with fail
          go_meet
          case rel => exact ⟨n, rfl, Lib.hid (HS.out.exit fun h => absurd h (by omega)), HB⟩
      · obtain rfl : k = p.f0.length := by omega
        go_wp2_with fail
        go_meet
        case rel => exact ⟨n, rfl, HS, HB⟩
  case rest =>
    obtain ⟨n0, rfl, HS0, HB0⟩ := hcut
    go_upto_block 2 with fail
    go_cut [5] (fun v5 wx => ∃ n : Int, v5 = I n ∧ Hid (St n (Q2 p p.f1.length)) ∧ Hid (Below w.heap.size w wx))
    case first =>
      go_upto_block 3 with fail
      go_loopw [5, 7] (fun v5 v7 wr => ∃ (k : Nat) (n : Int), k ≤ p.f1.length ∧ v7 = I k ∧ v5 = I n ∧ Hid (St n (Q2 p k)) ∧ Hid (Below w.heap.size w wr)) (fun _ v7 _ => p.f1.length - (intOf v7).toNat)
      case atStart => exact ⟨0, n0, Nat.zero_le _, rfl, rfl, Lib.hid (HS0.out.exit fun _ h => ⟨h, fun j hj => absurd hj (Nat.not_lt_zero _)⟩), HB0⟩
      case round =>
        obtain ⟨k, n, hk, rfl, rfl, HS, HB⟩ := hrel
        clear HS0 HB0
        have hca := cell_b HC1.out HB.out
        have hn0 := HS.out.1
        have hn1 := HS.out.2.1
        by_cases hlt : k < p.f1.length
        · by_cases hn : n ≤ 1000
          · obtain ⟨ad, A8, c8, A9, c9, e, hx0, hx1, hl8, hi8, hl9, hi9⟩ := at_T38 HG1.out (k : Int) (by omega) (by omega)
            subst e
            replace hx0 := cell_b hx0 HB.out
            replace hx1 := cell_b hx1 HB.out
            have hgl := (getD_ok HG.out.c (d := z38) hlt).1.2
            have hgm := (getD_ok HG.out.c (d := z38) hlt).2.2
            rw [reach_eq] at hgl hgm
            rw [Int.toNat_natCast] at hx0 hx1
            have HQ : Hid (Q2 p k → ((p.f1.getD k z38).f0.length : Int) + ((p.f1.getD k z38).f1.length : Int) ≤ 1000 → Q2 p (k + 1)) := Lib.hid fun h hl => ⟨h.1, lt_succ_all h.2 ⟨by omega, by omega⟩⟩
            obtain ⟨L, hL⟩ : ∃ L, (p.f1.getD k z38).f0.length = L := ⟨_, rfl⟩
            obtain ⟨M, hM⟩ : ∃ M, (p.f1.getD k z38).f1.length = M := ⟨_, rfl⟩
            rw [hL] at hx0 hgl HQ
            rw [hM] at hx1 hgm HQ
            clear hi8 hl8 hi9 hl9 hL hM
            have HSN := Lib.hid (HS.out.step hn (L := (L : Int) + (M : Int)) (by omega) (by omega) HQ.out)
            go_upto_region 11 with fail
            have hw1 := wr64 (n + (L : Int)) (by omega) (by omega)
            have hw2 := wr64 (n + (L : Int) + (M : Int)) (by omega) (by omega)
            have hlt' : decide ((k : Int) < (p.f1.length : Int)) = true := decide_eq_true (by omega)
            have hge' : decide (0 ≤ (k : Int)) = true := decide_eq_true (by omega)
            go_quiet (fail)
            clear hw1 hw2 hlt' hge'
            go_wp2_with fail
            go_roundw
            case rel => exact ⟨k + 1, n + L + M, by omega, by go_num, rfl, Lib.hid (by have := HSN.out; rwa [← Int.add_assoc] at this), Lib.hid (below_drewN HB.out _)⟩
            case measure => simp [intOf]; omega
          · have hn : 1000 < n := by omega
            go_wp2_with fail
            go_meet
            case rel => exact ⟨n, rfl, Lib.hid (HS.out.exit fun h => absurd h (by omega)), HB⟩
        · obtain rfl : k = p.f1.length := by omega
          go_wp2_with fail
          go_meet
          case rel => exact ⟨n, rfl, HS, HB⟩
    case rest =>
      clear HS0 HB0
      obtain ⟨n0, rfl, HS0, HB0⟩ := hcut
      go_upto_block 4 with fail
      go_cut [5] (fun v5 wx => ∃ n : Int, v5 = I n ∧ Hid (St n (Q3 p p.f2.length)) ∧ Hid (Below w.heap.size w wx))
      case first =>
        go_upto_block 5 with fail
        go_loopw [5, 8] (fun v5 v8 wr => ∃ (k : Nat) (n : Int), k ≤ p.f2.length ∧ v8 = I k ∧ v5 = I n ∧ Hid (St n (Q3 p k)) ∧ Hid (Below w.heap.size w wr)) (fun _ v8 _ => p.f2.length - (intOf v8).toNat)
        case atStart => exact ⟨0, n0, Nat.zero_le _, rfl, rfl, Lib.hid (HS0.out.exit fun _ h => ⟨h, fun j hj => absurd hj (Nat.not_lt_zero _)⟩), HB0⟩
        case round =>
          obtain ⟨k, n, hk, rfl, rfl, HS, HB⟩ := hrel
          clear HS0 HB0
          have hca := cell_b HC2.out HB.out
          have hn0 := HS.out.1
          have hn1 := HS.out.2.1
          by_cases hlt : k < p.f2.length
          · by_cases hn : n ≤ 1000
            · obtain ⟨ad, A8, c8, e, hx0, hx1, hl8, hi8⟩ := at_T41 HG2.out (k : Int) (by omega) (by omega)
              subst e
              rw [Int.toNat_natCast] at hx0 hx1 hl8 hi8
              have HX1 := Lib.hid hx1
              replace hx1 := cell_b hx1 HB.out
              have HGF := Lib.hid (getD_ok HG.out.f (d := z41) hlt)
              have hgl := HGF.out.2.2
              rw [reach_eq] at hgl
              have HQ : Hid (Q3 p k → ((p.f2.getD k z41).f1.length : Int) ≤ 1000 → Q3 p k ∧ funS (p.f2.getD k z41) 0) := Lib.hid fun h hl => ⟨h, by omega, fun j hj => absurd hj (Nat.not_lt_zero _)⟩
              have HQE : Hid (Q3 p k ∧ funS (p.f2.getD k z41) (p.f2.getD k z41).f1.length → Q3 p (k + 1)) := Lib.hid fun h => ⟨h.1.1, lt_succ_all h.1.2 h.2⟩
              obtain ⟨F, hF⟩ : ∃ F, p.f2.getD k z41 = F := ⟨_, rfl⟩
              rw [hF] at HX1 hx1 hgl HQ HQE HGF hi8
              clear hF
              have HI8 := Lib.hid hi8
              clear hi8 hl8 hx0
              have HSN := Lib.hid (HS.out.step hn (L := (F.f1.length : Int)) (by omega) (by omega) HQ.out)
              go_upto_block 7 with fail
              obtain ⟨n2, hn2⟩ : ∃ n2 : Int, n + (F.f1.length : Int) = n2 := ⟨_, rfl⟩
              rw [hn2] at HSN ⊢
              clear hn2 hx1 hca HQ HS
              go_loopw [5, 9] (fun v5 v9 wr => ∃ (q : Nat) (n : Int), q ≤ F.f1.length ∧ v9 = I q ∧ v5 = I n ∧ Hid (St n (Q3 p k ∧ funS F q)) ∧ Hid (Below w.heap.size w wr)) (fun _ v9 _ => F.f1.length - (intOf v9).toNat)
              case atStart => exact ⟨0, n2, Nat.zero_le _, rfl, rfl, HSN, HB⟩
              case round =>
                clear HSN HB hn0 hn1 hn
                obtain ⟨q, n, hq, rfl, rfl, HS, HB⟩ := hrel
                have hca := cell_b HC2.out HB.out
                have hx1 := cell_b HX1.out HB.out
                have hn0 := HS.out.1
                have hn1 := HS.out.2.1
                by_cases hlq : q < F.f1.length
                · by_cases hn : n ≤ 1000
                  · obtain ⟨ad6, B0, d0, B1, d1, B6, d6, B7, d7, e, hy0, hy1, hy2, hy3, hy4, hy5, hy6, hy7, hm0, hj0, hm1, hj1, hm6, hj6, hm7, hj7⟩ := at_T46 HI8.out (q : Int) (by omega) (by omega)
                    subst e
                    rw [Int.toNat_natCast] at hy0 hy1 hy2 hy3 hy4 hy5 hy6 hy7
                    rw [show rd_T46 F.f1 (q : Int) = F.f1.getD q z46 from rfl] at hy0 hy1 hy2 hy3 hy4 hy5 hy6 hy7 hj1
                    replace hy0 := cell_b hy0 HB.out
                    replace hy1 := cell_b hy1 HB.out
                    replace hy2 := cell_b hy2 HB.out
                    replace hy3 := cell_b hy3 HB.out
                    replace hy4 := cell_b hy4 HB.out
                    replace hy5 := cell_b hy5 HB.out
                    replace hy6 := cell_b hy6 HB.out
                    replace hy7 := cell_b hy7 HB.out
                    clear hm0 hj0 hm1 hm6 hj6 hm7 hj7
                    have HJ1 := Lib.hid hj1
                    clear hj1
                    have HGB := Lib.hid (getD_ok HGF.out.2.1 (d := z46) hlq)
                    have HQ : Hid (Q3 p k ∧ funS F q → (((F.f1.getD q z46).f0.length : Int) + ((F.f1.getD q z46).f1.length : Int) + ((F.f1.getD q z46).f2.f4.length : Int) + ((F.f1.getD q z46).f2.f5.length : Int)) ≤ 1000 → (Q3 p k ∧ funS F q) ∧ blkS (F.f1.getD q z46) 0) := Lib.hid fun h hl => ⟨h, ⟨by omega, by omega, by omega, by omega⟩, fun j hj => absurd hj (Nat.not_lt_zero _)⟩
                    have HQF : Hid ((Q3 p k ∧ funS F q) ∧ blkS (F.f1.getD q z46) (F.f1.getD q z46).f1.length → Q3 p k ∧ funS F (q + 1)) := Lib.hid fun h => ⟨h.1.1, h.1.2.1, lt_succ_all h.1.2.2 h.2⟩
                    obtain ⟨bk, hbk⟩ : ∃ bk, F.f1.getD q z46 = bk := ⟨_, rfl⟩
                    rw [hbk] at hy0 hy1 hy2 hy3 hy4 hy5 hy6 hy7 HJ1 HGB HQ HQF
                    clear hbk
                    obtain ⟨ps, ops, ⟨e0, e1, e2, e3, e4, e5⟩⟩ := bk
                    dsimp only at hy0 hy1 hy2 hy3 hy4 hy5 hy6 hy7 HJ1 HQ HQF
                    have hgb0 := HGB.out.1.2
                    have hgb1 := HGB.out.2.1.2
                    have hgb4 := HGB.out.2.2.2.2.2.2.1.2
                    have hgb5 := HGB.out.2.2.2.2.2.2.2.2
                    rw [reach_eq] at hgb0 hgb1 hgb4 hgb5
                    dsimp only at hgb0 hgb1 hgb4 hgb5
                    have HSN := Lib.hid (HS.out.step hn (L := (ps.length : Int) + (ops.length : Int) + (e4.length : Int) + (e5.length : Int)) (by omega) (by omega) HQ.out)
                    go_upto_block 9 with fail
                    clear hy0 hy1 hy2 hy3 hy4 hy5 hy6 hy7 hca hx1 HQ
                    have HBX := Lib.hid (HB.out.trans ((below_alloc wr (.cells #[.slice B0 ps.length d0, .slice B1 ops.length d1, I e0, I e1, I e2, I e3, .slice B6 e4.length d6, .slice B7 e5.length d7] 46)).mono HB.out.size))
                    have HAB := Lib.hid (Arr.new wr 46 #[.slice B0 ps.length d0, .slice B1 ops.length d1, I e0, I e1, I e2, I e3, .slice B6 e4.length d6, .slice B7 e5.length d7])
                    obtain ⟨W, hW⟩ : ∃ W, wr.alloc (.cells #[.slice B0 ps.length d0, .slice B1 ops.length d1, I e0, I e1, I e2, I e3, .slice B6 e4.length d6, .slice B7 e5.length d7] 46) = W := ⟨_, rfl⟩
                    obtain ⟨bb, hbb⟩ : ∃ bb, wr.heap.size = bb := ⟨_, rfl⟩
                    rw [hW] at HBX HAB ⊢
                    rw [hbb] at HAB ⊢
                    clear hW hbb HB
                    rw [← Int.add_assoc, ← Int.add_assoc, ← Int.add_assoc] at HSN
                    obtain ⟨n2, hn2⟩ : ∃ n2 : Int, n + (ps.length : Int) + (ops.length : Int) + (e4.length : Int) + (e5.length : Int) = n2 := ⟨_, rfl⟩
                    rw [hn2] at HSN ⊢
                    clear hn2 HS hn0 hn1 hn
                    go_loopw [5, 11] (fun v5 v11 wr => ∃ (m : Nat) (n : Int), m ≤ ops.length ∧ v11 = I m ∧ v5 = I n ∧ Hid (St n ((Q3 p k ∧ funS F q) ∧ blkS ⟨ps, ops, ⟨e0, e1, e2, e3, e4, e5⟩⟩ m)) ∧ Hid (Below w.heap.size w wr) ∧ Hid (Arr wr bb 46 [.slice B0 ps.length d0, .slice B1 ops.length d1, I e0, I e1, I e2, I e3, .slice B6 e4.length d6, .slice B7 e5.length d7])) (fun _ v11 _ => ops.length - (intOf v11).toNat)
                    case atStart => exact ⟨0, n2, Nat.zero_le _, rfl, rfl, HSN, HBX, HAB⟩
                    case round =>
                      clear HSN HBX HAB
                      obtain ⟨m, n, hm, rfl, rfl, HS, HB, HAB⟩ := hrel
                      have hb1 := HAB.out.cell 1
                      have hb1 : wr.cell? ⟨bb, 1, none⟩ = some (.slice B1 ops.length d1) := hb1
                      have hn0 := HS.out.1
                      have hn1 := HS.out.2.1
                      by_cases hlm : m < ops.length
                      · by_cases hn : n ≤ 1000
                        · obtain ⟨ad8, C8, f8, e, hz0, hz1, hz2, hz3, hz4, hz5, hz6, hz7, hl9, hi9⟩ := at_T48 HJ1.out (m : Int) (by omega) (by omega)
                          subst e
                          rw [Int.toNat_natCast] at hz5 hz6
                          rw [show rd_T48 ops (m : Int) = ops.getD m z48 from rfl] at hz5 hz6
                          replace hz5 := cell_b hz5 HB.out
                          replace hz6 := cell_b hz6 HB.out
                          clear hz0 hz1 hz2 hz3 hz4 hz7 hl9 hi9
                          have hgo := getD_ok HGB.out.2.1.1 (d := z48) hlm
                          have hgs := hgo.2.2.2.2.2.1
                          have hgl := hgo.2.2.2.2.2.2.2
                          rw [reach_eq] at hgs hgl
                          have HQ : Hid ((Q3 p k ∧ funS F q) ∧ blkS ⟨ps, ops, ⟨e0, e1, e2, e3, e4, e5⟩⟩ m → ((ops.getD m z48).f6.length : Int) + (((ops.getD m z48).f5.size / 8 : Nat) : Int) ≤ 1000 → (Q3 p k ∧ funS F q) ∧ blkS ⟨ps, ops, ⟨e0, e1, e2, e3, e4, e5⟩⟩ (m + 1)) := Lib.hid fun h hl => ⟨h.1, h.2.1, lt_succ_all h.2.2 (show opS (ops.getD m z48) from ⟨by omega, by omega⟩)⟩
                          obtain ⟨o, ho⟩ : ∃ o, ops.getD m z48 = o := ⟨_, rfl⟩
                          rw [ho] at hz5 hz6 hgs hgl HQ
                          clear ho hgo
                          have HSN := Lib.hid (HS.out.step hn (L := (o.f6.length : Int) + ((o.f5.size / 8 : Nat) : Int)) (by omega) (by omega) HQ.out)
                          go_upto_region 24 with fail
                          have hw1 := wr64 (n + (o.f6.length : Int)) (by omega) (by omega)
                          have hw2 := wr64 (n + (o.f6.length : Int) + ((o.f5.size / 8 : Nat) : Int)) (by omega) (by omega)
                          have hw3 : IntKind.i64.wrap (Int.tdiv (o.f5.size : Int) 8) = ((o.f5.size / 8 : Nat) : Int) := wr64 _ (by show (0 : Int) ≤ ((o.f5.size / 8 : Nat) : Int); omega) (by show ((o.f5.size / 8 : Nat) : Int) ≤ _; omega)
                          have hlt' : decide ((m : Int) < (ops.length : Int)) = true := decide_eq_true (by omega)
                          have hge' : decide (0 ≤ (m : Int)) = true := decide_eq_true (by omega)
                          go_quiet (fail)
                          clear hw1 hw2 hw3 hlt' hge'
                          go_wp2_with fail
                          go_roundw
                          case rel => exact ⟨m + 1, n + (o.f6.length : Int) + (o.f5.size : Int) / 8, by omega, by go_num, rfl, Lib.hid (by have := HSN.out; rw [← Int.add_assoc] at this; simpa using this), Lib.hid (below_drewN HB.out _), Lib.hid (HAB.out.drewN _)⟩
                          case measure => simp [intOf]; omega
                        · have hn : 1000 < n := by omega
                          go_wp2_with fail
                          go_roundw
                          case rel => exact ⟨q + 1, n, by omega, by go_num, rfl, Lib.hid (HS.out.exit fun h => absurd h (by omega)), HB⟩
                          case measure => simp [intOf]; omega
                      · obtain rfl : m = ops.length := by omega
                        go_wp2_with fail
                        go_roundw
                        case rel => exact ⟨q + 1, n, by omega, by go_num, rfl, Lib.hid (HS.out.exit fun _ h => HQF.out h), HB⟩
                        case measure => simp [intOf]; omega
                  · have hn : 1000 < n := by omega
                    go_wp2_with fail
                    go_roundw
                    case rel => exact ⟨k + 1, n, by omega, by go_num, rfl, Lib.hid (HS.out.exit fun h => absurd h (by omega)), HB⟩
                    case measure => simp [intOf]; omega
                · obtain rfl : q = F.f1.length := by omega
                  go_wp2_with fail
                  go_roundw
                  case rel => exact ⟨k + 1, n, by omega, by go_num, rfl, Lib.hid (HS.out.exit fun _ h => HQE.out h), HB⟩
                  case measure => simp [intOf]; omega
            · have hn : 1000 < n := by omega
              go_wp2_with fail
              go_meet
              case rel => exact ⟨n, rfl, Lib.hid (HS.out.exit fun h => absurd h (by omega)), HB⟩
          · obtain rfl : k = p.f2.length := by omega
            go_wp2_with fail
            go_meet
            case rel => exact ⟨n, rfl, HS, HB⟩
      case rest =>
        clear HS0 HB0
        obtain ⟨n0, rfl, HS0, HB0⟩ := hcut
        have HD : Hid (∀ r : Bool, r = decide (n0 ≤ 1000) → r = true → okP p) := Lib.hid fun r hr ht => okP_of HG.out (HS0.out.2.2 (by rw [hr] at ht; exact of_decide_eq_true ht))
        obtain ⟨r, hr⟩ : ∃ r : Bool, decide (n0 ≤ 1000) = r := ⟨_, rfl⟩
        go_wp2_with fail
        go_ret
        exact ⟨r, rfl, HD.out r hr.symm, HB0⟩
end Go.Proofs.YtacopdbldfgknaaDoor
