/- Parts of a print (print.sh): PShellTextsx8. -/
import Derived.Test.YtacopdbldfgknaaDoorPA
import Derived.Test.YtacopdbldfgknaaDoorPB
import Derived.Test.YtacopdbldfgknaaDoorPG
import Derived.Test.YtacopdbldfgknaaDoorPH
import Derived.Test.YtacopdbldfgknaaDoorPI
namespace Go.Proofs.YtacopdbldfgknaaDoor.PShellTexts
open Go.RowKit Go.Proofs.YtacopdbldfgknaaDoorW.PrintWords Go.Proofs.YtacopdbldfgknaaDoorW.PrintLast Go.Proofs.YtacopdbldfgknaaDoorW.PrintMore
attribute [local go_sem] max2_int min2_int max_two min_two max_three min_three max_four min_four   -- for this text's walks alone
set_option linter.unusedVariables false
set_option linter.unusedSimpArgs false

/-! ### hallmarkref06_Func: function 21 -/
mutual
def hallmarkref06_Func.l0 : Nat → ByteArray → Int → Int → Int → List (S46) → Option (ByteArray)
  | 0, _, _, _, _, _ => none
  | k + 1, x3, x4, x5, x223000, x223001 => if x5 < (x223001.length : Int) then (if 0 ≤ x5 then ((hallmarkref06_num.f k x5).bind fun t226 => (if x3.size + t226.size ≤ 9223372036854775807 then (if (x3 ++ t226).size + 1 ≤ 9223372036854775807 then ((hallmarkref06_list.f k ((rd_T46 x223001 x5).f0) 0).bind fun t227 => (if ((x3 ++ t226) ++ (⟨#[40]⟩ : ByteArray)).size + t227.size ≤ 9223372036854775807 then (if (((x3 ++ t226) ++ (⟨#[40]⟩ : ByteArray)) ++ t227).size + 2 ≤ 9223372036854775807 then (hallmarkref06_Func.l1 k ((((x3 ++ t226) ++ (⟨#[40]⟩ : ByteArray)) ++ t227) ++ (⟨#[41, 10]⟩ : ByteArray)) (wrap64 (x4 + (((rd_T46 x223001 x5).f0).length : Int))) x5 0 x223000 x223001 ((rd_T46 x223001 x5).f0) ((rd_T46 x223001 x5).f1) ((rd_T46 x223001 x5).f2.f0) ((rd_T46 x223001 x5).f2.f1) ((rd_T46 x223001 x5).f2.f2) ((rd_T46 x223001 x5).f2.f3) ((rd_T46 x223001 x5).f2.f4) ((rd_T46 x223001 x5).f2.f5)) else (none)) else (none))) else (none)) else (none))) else (none)) else (some x3)
def hallmarkref06_Func.l1 : Nat → ByteArray → Int → Int → Int → Int → List (S46) → List Int → List (S48) → Int → Int → Int → Int → List Int → List Int → Option (ByteArray)
  | 0, _, _, _, _, _, _, _, _, _, _, _, _, _, _ => none
  | k + 1, x3, x4, x5, x7, x223000, x223001, x226000, x226001, x226002, x226003, x226004, x226005, x226006, x226007 => if x7 < (x226001.length : Int) then (if x3.size + 3 ≤ 9223372036854775807 then ((hallmarkref06_num.f k x4).bind fun t228 => (if (x3 ++ (⟨#[32, 32, 118]⟩ : ByteArray)).size + t228.size ≤ 9223372036854775807 then (if ((x3 ++ (⟨#[32, 32, 118]⟩ : ByteArray)) ++ t228).size + 3 ≤ 9223372036854775807 then (if 0 ≤ x7 then ((hallmarkref06_Op.f k ((rd_T48 x226001 x7).f0) ((rd_T48 x226001 x7).f1) ((rd_T48 x226001 x7).f2) ((rd_T48 x226001 x7).f3) ((rd_T48 x226001 x7).f4) ((rd_T48 x226001 x7).f5) ((rd_T48 x226001 x7).f6) ((rd_T48 x226001 x7).f7)).bind fun t230 => (if (((x3 ++ (⟨#[32, 32, 118]⟩ : ByteArray)) ++ t228) ++ (⟨#[32, 61, 32]⟩ : ByteArray)).size + t230.size ≤ 9223372036854775807 then (if ((((x3 ++ (⟨#[32, 32, 118]⟩ : ByteArray)) ++ t228) ++ (⟨#[32, 61, 32]⟩ : ByteArray)) ++ t230).size + 1 ≤ 9223372036854775807 then (hallmarkref06_Func.l1 k (((((x3 ++ (⟨#[32, 32, 118]⟩ : ByteArray)) ++ t228) ++ (⟨#[32, 61, 32]⟩ : ByteArray)) ++ t230) ++ (⟨#[10]⟩ : ByteArray)) (wrap64 (x4 + 1)) x5 (wrap64 (x7 + 1)) x223000 x223001 x226000 x226001 x226002 x226003 x226004 x226005 x226006 x226007) else (none)) else (none))) else (none)) else (none)) else (none))) else (none)) else (if x3.size + 2 ≤ 9223372036854775807 then ((hallmarkref06_end.f k x226002 x226003 x226004 x226005 x226006 x226007).bind fun t231 => (if (x3 ++ (⟨#[32, 32]⟩ : ByteArray)).size + t231.size ≤ 9223372036854775807 then (if ((x3 ++ (⟨#[32, 32]⟩ : ByteArray)) ++ t231).size + 1 ≤ 9223372036854775807 then (hallmarkref06_Func.l0 k (((x3 ++ (⟨#[32, 32]⟩ : ByteArray)) ++ t231) ++ (⟨#[10]⟩ : ByteArray)) x4 (wrap64 (x5 + 1)) x223000 x223001) else (none)) else (none))) else (none))
end
def hallmarkref06_Func.f (k : Nat) (a0_0 : Int) (l0_1 : List (S46)) : Option (ByteArray) := (hallmarkref06_Type.f k a0_0).bind fun t223 => (if 5 + t223.size ≤ 9223372036854775807 then (if ((⟨#[102, 117, 110, 99, 32]⟩ : ByteArray) ++ t223).size + 1 ≤ 9223372036854775807 then (hallmarkref06_Func.l0 k (((⟨#[102, 117, 110, 99, 32]⟩ : ByteArray) ++ t223) ++ (⟨#[10]⟩ : ByteArray)) 0 0 a0_0 l0_1) else (none)) else (none))
theorem hallmarkref06_Func.mono_l : ∀ k, (∀ y0 y1 y2 y3 y4, LeO (hallmarkref06_Func.l0 k y0 y1 y2 y3 y4) (hallmarkref06_Func.l0 (k + 1) y0 y1 y2 y3 y4)) ∧ (∀ y0 y1 y2 y3 y4 y5 y6 y7 y8 y9 y10 y11 y12 y13, LeO (hallmarkref06_Func.l1 k y0 y1 y2 y3 y4 y5 y6 y7 y8 y9 y10 y11 y12 y13) (hallmarkref06_Func.l1 (k + 1) y0 y1 y2 y3 y4 y5 y6 y7 y8 y9 y10 y11 y12 y13))
  | 0 => ⟨fun _ _ _ _ _ r h => by simp [hallmarkref06_Func.l0] at h, fun _ _ _ _ _ _ _ _ _ _ _ _ _ _ r h => by simp [hallmarkref06_Func.l1] at h⟩
  | k + 1 => by
    obtain ⟨ih0, ih1⟩ := hallmarkref06_Func.mono_l k
    refine ⟨?_, ?_⟩
    · intro y0 y1 y2 y3 y4
      unfold hallmarkref06_Func.l0
      repeat' first
      | (with_reducible exact ih0 _ _ _ _ _)
      | (with_reducible exact ih1 _ _ _ _ _ _ _ _ _ _ _ _ _ _)
      | (with_reducible exact hallmarkref06_Op.mono _ _ _ _ _ _ _ _ _)
      | (with_reducible exact hallmarkref06_Type.mono _ _)
      | (with_reducible exact hallmarkref06_end.mono _ _ _ _ _ _ _)
      | (with_reducible exact hallmarkref06_list.mono _ _ _)
      | (with_reducible exact hallmarkref06_num.mono _ _)
      | (with_reducible exact LeO.refl _)
      | (with_reducible exact LeO.none _)
      | (with_reducible refine LeO.ite ?_ ?_)
      | (with_reducible refine LeO.bind ?_ (fun _ => ?_))
      | exact ih0 _ _ _ _ _
      | exact ih1 _ _ _ _ _ _ _ _ _ _ _ _ _ _
      | exact hallmarkref06_Op.mono _ _ _ _ _ _ _ _ _
      | exact hallmarkref06_Type.mono _ _
      | exact hallmarkref06_end.mono _ _ _ _ _ _ _
      | exact hallmarkref06_list.mono _ _ _
      | exact hallmarkref06_num.mono _ _
      | exact LeO.none _
      | refine LeO.ite ?_ ?_
      | refine LeO.bind ?_ (fun _ => ?_)
    · intro y0 y1 y2 y3 y4 y5 y6 y7 y8 y9 y10 y11 y12 y13
      unfold hallmarkref06_Func.l1
      repeat' first
      | (with_reducible exact ih0 _ _ _ _ _)
      | (with_reducible exact ih1 _ _ _ _ _ _ _ _ _ _ _ _ _ _)
      | (with_reducible exact hallmarkref06_Op.mono _ _ _ _ _ _ _ _ _)
      | (with_reducible exact hallmarkref06_Type.mono _ _)
      | (with_reducible exact hallmarkref06_end.mono _ _ _ _ _ _ _)
      | (with_reducible exact hallmarkref06_list.mono _ _ _)
      | (with_reducible exact hallmarkref06_num.mono _ _)
      | (with_reducible exact LeO.refl _)
      | (with_reducible exact LeO.none _)
      | (with_reducible refine LeO.ite ?_ ?_)
      | (with_reducible refine LeO.bind ?_ (fun _ => ?_))
      | exact ih0 _ _ _ _ _
      | exact ih1 _ _ _ _ _ _ _ _ _ _ _ _ _ _
      | exact hallmarkref06_Op.mono _ _ _ _ _ _ _ _ _
      | exact hallmarkref06_Type.mono _ _
      | exact hallmarkref06_end.mono _ _ _ _ _ _ _
      | exact hallmarkref06_list.mono _ _ _
      | exact hallmarkref06_num.mono _ _
      | exact LeO.none _
      | refine LeO.ite ?_ ?_
      | refine LeO.bind ?_ (fun _ => ?_)
theorem hallmarkref06_Func.mono : ∀ a0 a1 k, LeO (hallmarkref06_Func.f k a0 a1) (hallmarkref06_Func.f (k + 1) a0 a1) := by
  intro a0 a1 k
  obtain ⟨ih0, ih1⟩ := hallmarkref06_Func.mono_l k
  unfold hallmarkref06_Func.f
  repeat' first
      | (with_reducible exact ih0 _ _ _ _ _)
      | (with_reducible exact ih1 _ _ _ _ _ _ _ _ _ _ _ _ _ _)
      | (with_reducible exact hallmarkref06_Op.mono _ _ _ _ _ _ _ _ _)
      | (with_reducible exact hallmarkref06_Type.mono _ _)
      | (with_reducible exact hallmarkref06_end.mono _ _ _ _ _ _ _)
      | (with_reducible exact hallmarkref06_list.mono _ _ _)
      | (with_reducible exact hallmarkref06_num.mono _ _)
      | (with_reducible exact LeO.refl _)
      | (with_reducible exact LeO.none _)
      | (with_reducible refine LeO.ite ?_ ?_)
      | (with_reducible refine LeO.bind ?_ (fun _ => ?_))
      | exact ih0 _ _ _ _ _
      | exact ih1 _ _ _ _ _ _ _ _ _ _ _ _ _ _
      | exact hallmarkref06_Op.mono _ _ _ _ _ _ _ _ _
      | exact hallmarkref06_Type.mono _ _
      | exact hallmarkref06_end.mono _ _ _ _ _ _ _
      | exact hallmarkref06_list.mono _ _ _
      | exact hallmarkref06_num.mono _ _
      | exact LeO.none _
      | refine LeO.ite ?_ ?_
      | refine LeO.bind ?_ (fun _ => ?_)
def hallmarkref06_Func.T6 : Bool × List (List Nat × List Nat) := (true, [([], []), ([], []), ([1], [1]), ([0, 2], [0, 2]), ([3], [3]), ([], []), ([5], [5]), ([6, 2], [6]), ([4, 7], [4, 7]), ([8], [8]), ([9, 7, 0, 1, 2, 3, 4, 5, 6, 7, 8, 9], [0, 9])])
def hallmarkref06_Func.B6 : List Nat := [0, 0, 2, 7, 15, 0, 32, 102, 255, 511, 1023]
theorem hallmarkref06_Func.tab6 : rtab .any (opsOf Tryd.f21 6) = hallmarkref06_Func.T6 := by kernel_rfl
theorem hallmarkref06_Func.bits6 : waitsOk hallmarkref06_Func.T6.2 hallmarkref06_Func.B6 = true := by kernel_rfl
def hallmarkref06_Func.T11 : Bool × List (List Nat × List Nat) := (true, [([], []), ([0], [0]), ([], []), ([2], [2]), ([1, 3], [1, 3]), ([4], [4]), ([], []), ([6], [6]), ([], []), ([7, 8], [7, 8]), ([9], [9]), ([10, 3], [10]), ([5, 11], [5, 11]), ([12], [12]), ([13, 11, 0, 1, 2, 3, 4, 5, 6, 7, 8, 9, 10, 11, 12, 13], [0, 13])])
def hallmarkref06_Func.B11 : List Nat := [0, 1, 0, 4, 15, 31, 0, 64, 0, 448, 960, 1996, 4095, 8191, 16383]
theorem hallmarkref06_Func.tab11 : rtab .any (opsOf Tryd.f21 11) = hallmarkref06_Func.T11 := by kernel_rfl
theorem hallmarkref06_Func.bits11 : waitsOk hallmarkref06_Func.T11.2 hallmarkref06_Func.B11 = true := by kernel_rfl
set_option maxHeartbeats 8000000 in
set_option maxRecDepth 100000 in
theorem hallmarkref06_Func.calls (k : Nat) (a0_0 : Int) (A0_1 : Option Addr) (c0_1 : Nat) (l0_1 : List (S46)) (r : ByteArray) (w : World) (hr0_1 : Kd.C k46 w A0_1 l0_1.length l0_1) (hc0_1 : l0_1.length ≤ c0_1) (h : hallmarkref06_Func.f k a0_0 l0_1 = some r) :
    Calls Tryd.prog 21 #[.agg #[.int .i64 a0_0, .slice A0_1 l0_1.length c0_1]] w fun e w' => e = .returned (.string r) ∧ Below w.heap.size w w' := by
  have hu41 := Tryd.underlying41
  have hu46 := Tryd.underlying46
  have hu48 := Tryd.underlying48
  have hu44 := Tryd.underlying44
  have HR0_1 := Aside0.mk hr0_1
  have HC0_1 := Aside0.mk hc0_1
  clear hr0_1 hc0_1
  have HB := Aside0.mk (Below.refl w.heap.size w)
  have H : ((hallmarkref06_Type.f k a0_0).bind fun t223 => (if 5 + t223.size ≤ 9223372036854775807 then (if ((⟨#[102, 117, 110, 99, 32]⟩ : ByteArray) ++ t223).size + 1 ≤ 9223372036854775807 then (hallmarkref06_Func.l0 k (((⟨#[102, 117, 110, 99, 32]⟩ : ByteArray) ++ t223) ++ (⟨#[10]⟩ : ByteArray)) 0 0 a0_0 l0_1) else (none)) else (none))) = some r := h
  clear h
  replace H := Option.bind_eq_some_iff.mp H
  obtain ⟨t223, A20, H⟩ := H
  replace H : (if 5 + t223.size ≤ 9223372036854775807 then (if ((⟨#[102, 117, 110, 99, 32]⟩ : ByteArray) ++ t223).size + 1 ≤ 9223372036854775807 then (hallmarkref06_Func.l0 k (((⟨#[102, 117, 110, 99, 32]⟩ : ByteArray) ++ t223) ++ (⟨#[10]⟩ : ByteArray)) 0 0 a0_0 l0_1) else (none)) else (none)) = some r := H
  have A2 := Aside0.mk A20
  clear A20
  by_cases c3 : 5 + t223.size ≤ 9223372036854775807
  · rw [if_pos c3] at H
    have c3b0 := eq_true c3
    have c3b1 : decide (5 + t223.size ≤ 9223372036854775807) = true := decide_eq_true c3
    try have c3b2 : (9223372036854775807 < 5 + t223.size) = False := eq_false (Nat.not_lt.2 c3)
    by_cases c4 : ((⟨#[102, 117, 110, 99, 32]⟩ : ByteArray) ++ t223).size + 1 ≤ 9223372036854775807
    · rw [if_pos c4] at H
      have c4b0 := eq_true c4
      have c4b1 : decide (((⟨#[102, 117, 110, 99, 32]⟩ : ByteArray) ++ t223).size + 1 ≤ 9223372036854775807) = true := decide_eq_true c4
      try have c4b2 : (9223372036854775807 < ((⟨#[102, 117, 110, 99, 32]⟩ : ByteArray) ++ t223).size + 1) = False := eq_false (Nat.not_lt.2 c4)
      have c4b3 := Nat.not_lt.2 c4
      simp only [ByteArray.size_append', ByteArray.size_mk', List.size_toArray, List.length_cons, List.length_nil, Nat.zero_add, Nat.reduceAdd] at c4b3
      replace c4b3 := eq_false c4b3
      have H' := Aside0.mk H
      clear H
      go_enter Tryd.func21, Tryd.ntmps21
      go_wp2_with (first | ((with_reducible refine gate_dst (N := 1) rfl ?_); refine box_event ?hg (N := 1) ?hd (cs := #[.int .i64 a0_0, .slice A0_1 l0_1.length c0_1]) (t := 41) ?hr ?_; (case hd => rfl); (case hg => rfl); (case hr => first | (go_simp; done) | (go_simp; rfl)); intro gb222 hg w5 hbox hb; have n0_ := Aside0.mk (below_step (by repeat (first | (with_reducible first | exact HB.out | apply below_alloc | apply pw_below_drewN | apply below_drew1) | exact HB.out)) hb); have n1_ := Aside0.mk (hbox); have n2_ := Aside0.mk ((by rw [hg]; exact (below_size (by repeat (first | (with_reducible first | exact HB.out | apply below_alloc | apply pw_below_drewN | apply below_drew1) | exact HB.out))) : w.heap.size ≤ gb222)); have n3_ := Aside0.mk ((by rw [hg]; exact (below_size (by repeat (first | (with_reducible first | exact HB.out | apply below_alloc | apply pw_below_drewN | apply below_drew1) | exact HB.out))) : w.heap.size ≤ gb222)); clear HB; have HB := n0_; have BK222 := n1_; have GW222 := n2_; have GE222 := n3_; clear n0_ n1_ n2_ n3_; clear hb hbox hg; have hcz6_0 : w5.cell? ⟨gb222, 0, none⟩ = some (.int .i64 a0_0) := (blk_cell BK222.out 0).trans rfl; have hcz6_1 : w5.cell? ⟨gb222, 1, none⟩ = some (.slice A0_1 l0_1.length c0_1) := (blk_cell BK222.out 1).trans rfl; have hfz6_0 := blk_frozen BK222.out 0; have hfz6_1 := blk_frozen BK222.out 1) | ((with_reducible refine gate_callee (f := 20) rfl ?_); refine goesL_ (some 10) rfl rfl Tryd.func20 (by kernel_rfl) rfl #[.int .i64 a0_0] rfl (by (try simp only [List.map_toArray, List.map_cons, List.map_nil]); first | done | rfl | (simp only [List.length_drop, List.length_take]; rfl)) ?_; (with_reducible refine (hallmarkref06_Type.calls k a0_0 t223 _ A2.out).mono ?_); rintro e w7 ⟨rfl, hb⟩; refine ⟨_, rfl, ?_⟩; have n0_ := Aside0.mk (blk_below (g := gb222) (o := .cells #[.int .i64 a0_0, .slice A0_1 l0_1.length c0_1] 41 (0, 0)) (by (with_reducible repeat (first | refine blk_drewN ?_ _ | refine blk_drew ?_ | refine blk_alloc ?_ _)); exact BK222.out) hb); have n1_ := Aside0.mk (below_step (by repeat (first | (with_reducible first | exact HB.out | apply below_alloc | apply pw_below_drewN | apply below_drew1 | refine below_set ?_ GE222.out) | exact HB.out)) hb); clear BK222; clear HB; have BK222 := n0_; have HB := n1_; clear n0_ n1_; (try clear hb); (try clear hb2); (try clear hk); (try clear hi)))
      go_loopg [3, 4, 5] k (fun kq v3 v4 v5 w' => ∃ (x3_1 : ByteArray) (x4_1 : Int) (x5_1 : Int), v3 = .string x3_1 ∧ v4 = .int .i64 x4_1 ∧ v5 = .int .i64 x5_1 ∧ Aside0 (hallmarkref06_Func.l0 kq x3_1 x4_1 x5_1 a0_0 l0_1 = some r) ∧ Aside0 (kq ≤ k) ∧ Aside0 (w'.heap[gb222]? = some (.cells #[.int .i64 a0_0, (.slice A0_1 l0_1.length c0_1)] 41 (0, 0))) ∧ Aside0 (Below w.heap.size w w'))
      case atStart => exact ⟨(((⟨#[102, 117, 110, 99, 32]⟩ : ByteArray) ++ t223) ++ (⟨#[10]⟩ : ByteArray)), (0), (0), (by first | rfl | (simp; done) | (simp [*]; done)), (by first | rfl | (simp; done) | (simp [*]; done)), (by first | rfl | (simp; done) | (simp [*]; done)), H', ⟨Nat.le_refl _⟩, ⟨by (with_reducible repeat (first | refine blk_drewN ?_ _ | refine blk_drew ?_ | refine blk_alloc ?_ _)); exact BK222.out⟩, ⟨by repeat (first | (with_reducible first | exact HB.out | apply below_alloc | apply pw_below_drewN | apply below_drew1 | refine below_set ?_ GE222.out) | exact HB.out)⟩⟩
      case round =>
        clear H'
        try clear c2
        try clear p2
        try clear c3
        try clear c3b0
        try clear c3b1
        try clear c3b2
        try clear c4
        try clear c4b0
        try clear c4b1
        try clear c4b2
        try clear hcz6_0
        try clear hcz6_1
        try clear hfz6_0
        try clear hfz6_1
        obtain ⟨x3_1, x4_1, x5_1, rfl, rfl, rfl, HA, HK1, BK222, HB⟩ := hrel
        cases gk with
        | zero => exact absurd HA.out (by simp [hallmarkref06_Func.l0])
        | succ k1 =>
          have H := HA.out
          clear HA
          simp only [hallmarkref06_Func.l0] at H
          by_cases c8 : x5_1 < (l0_1.length : Int)
          · rw [if_pos c8] at H
            have c8b0 : decide (x5_1 < (l0_1.length : Int)) = true := decide_eq_true c8
            clear c8
            by_cases c9 : 0 ≤ x5_1
            · rw [if_pos c9] at H
              have c9b0 : decide (0 ≤ x5_1) = true := decide_eq_true c9
              clear c9
              replace H := Option.bind_eq_some_iff.mp H
              obtain ⟨t226, A100, H⟩ := H
              replace H : (if x3_1.size + t226.size ≤ 9223372036854775807 then (if (x3_1 ++ t226).size + 1 ≤ 9223372036854775807 then ((hallmarkref06_list.f k1 ((rd_T46 l0_1 x5_1).f0) 0).bind fun t227 => (if ((x3_1 ++ t226) ++ (⟨#[40]⟩ : ByteArray)).size + t227.size ≤ 9223372036854775807 then (if (((x3_1 ++ t226) ++ (⟨#[40]⟩ : ByteArray)) ++ t227).size + 2 ≤ 9223372036854775807 then (hallmarkref06_Func.l1 k1 ((((x3_1 ++ t226) ++ (⟨#[40]⟩ : ByteArray)) ++ t227) ++ (⟨#[41, 10]⟩ : ByteArray)) (wrap64 (x4_1 + (((rd_T46 l0_1 x5_1).f0).length : Int))) x5_1 0 a0_0 l0_1 ((rd_T46 l0_1 x5_1).f0) ((rd_T46 l0_1 x5_1).f1) ((rd_T46 l0_1 x5_1).f2.f0) ((rd_T46 l0_1 x5_1).f2.f1) ((rd_T46 l0_1 x5_1).f2.f2) ((rd_T46 l0_1 x5_1).f2.f3) ((rd_T46 l0_1 x5_1).f2.f4) ((rd_T46 l0_1 x5_1).f2.f5)) else (none)) else (none))) else (none)) else (none)) = some r := H
              have A10 := Aside0.mk A100
              clear A100
              by_cases c11 : x3_1.size + t226.size ≤ 9223372036854775807
              · rw [if_pos c11] at H
                have c11b0 := eq_true c11
                have c11b1 : decide (x3_1.size + t226.size ≤ 9223372036854775807) = true := decide_eq_true c11
                try have c11b2 : (9223372036854775807 < x3_1.size + t226.size) = False := eq_false (Nat.not_lt.2 c11)
                by_cases c12 : (x3_1 ++ t226).size + 1 ≤ 9223372036854775807
                · rw [if_pos c12] at H
                  have c12b0 := eq_true c12
                  have c12b1 : decide ((x3_1 ++ t226).size + 1 ≤ 9223372036854775807) = true := decide_eq_true c12
                  try have c12b2 : (9223372036854775807 < (x3_1 ++ t226).size + 1) = False := eq_false (Nat.not_lt.2 c12)
                  have c12b3 := Nat.not_lt.2 c12
                  simp only [ByteArray.size_append', ByteArray.size_mk', List.size_toArray, List.length_cons, List.length_nil, Nat.zero_add, Nat.reduceAdd] at c12b3
                  replace c12b3 := eq_false c12b3
                  replace H := Option.bind_eq_some_iff.mp H
                  obtain ⟨t227, A130, H⟩ := H
                  replace H : (if ((x3_1 ++ t226) ++ (⟨#[40]⟩ : ByteArray)).size + t227.size ≤ 9223372036854775807 then (if (((x3_1 ++ t226) ++ (⟨#[40]⟩ : ByteArray)) ++ t227).size + 2 ≤ 9223372036854775807 then (hallmarkref06_Func.l1 k1 ((((x3_1 ++ t226) ++ (⟨#[40]⟩ : ByteArray)) ++ t227) ++ (⟨#[41, 10]⟩ : ByteArray)) (wrap64 (x4_1 + (((rd_T46 l0_1 x5_1).f0).length : Int))) x5_1 0 a0_0 l0_1 ((rd_T46 l0_1 x5_1).f0) ((rd_T46 l0_1 x5_1).f1) ((rd_T46 l0_1 x5_1).f2.f0) ((rd_T46 l0_1 x5_1).f2.f1) ((rd_T46 l0_1 x5_1).f2.f2) ((rd_T46 l0_1 x5_1).f2.f3) ((rd_T46 l0_1 x5_1).f2.f4) ((rd_T46 l0_1 x5_1).f2.f5)) else (none)) else (none)) = some r := H
                  have A13 := Aside0.mk A130
                  clear A130
                  by_cases c14 : ((x3_1 ++ t226) ++ (⟨#[40]⟩ : ByteArray)).size + t227.size ≤ 9223372036854775807
                  · rw [if_pos c14] at H
                    have c14b0 := eq_true c14
                    have c14b1 : decide (((x3_1 ++ t226) ++ (⟨#[40]⟩ : ByteArray)).size + t227.size ≤ 9223372036854775807) = true := decide_eq_true c14
                    try have c14b2 : (9223372036854775807 < ((x3_1 ++ t226) ++ (⟨#[40]⟩ : ByteArray)).size + t227.size) = False := eq_false (Nat.not_lt.2 c14)
                    have c14b3 := Nat.not_lt.2 c14
                    simp only [ByteArray.size_append', ByteArray.size_mk', List.size_toArray, List.length_cons, List.length_nil, Nat.zero_add, Nat.reduceAdd] at c14b3
                    replace c14b3 := eq_false c14b3
                    by_cases c15 : (((x3_1 ++ t226) ++ (⟨#[40]⟩ : ByteArray)) ++ t227).size + 2 ≤ 9223372036854775807
                    · rw [if_pos c15] at H
                      have c15b0 := eq_true c15
                      have c15b1 : decide ((((x3_1 ++ t226) ++ (⟨#[40]⟩ : ByteArray)) ++ t227).size + 2 ≤ 9223372036854775807) = true := decide_eq_true c15
                      try have c15b2 : (9223372036854775807 < (((x3_1 ++ t226) ++ (⟨#[40]⟩ : ByteArray)) ++ t227).size + 2) = False := eq_false (Nat.not_lt.2 c15)
                      have c15b3 := Nat.not_lt.2 c15
                      simp only [ByteArray.size_append', ByteArray.size_mk', List.size_toArray, List.length_cons, List.length_nil, Nat.zero_add, Nat.reduceAdd] at c15b3
                      replace c15b3 := eq_false c15b3
                      have H' := Aside0.mk H
                      clear H
                      have hcz16_0 : wr.cell? ⟨gb222, 0, none⟩ = some (.int .i64 a0_0) := (blk_cell BK222.out 0).trans rfl
                      have hcz16_1 : wr.cell? ⟨gb222, 1, none⟩ = some (.slice A0_1 l0_1.length c0_1) := (blk_cell BK222.out 1).trans rfl
                      have hfz16_0 := blk_frozen BK222.out 0
                      have hfz16_1 := blk_frozen BK222.out 1
                      have p224 : 0 ≤ (x5_1 : Int) := of_decide_eq_true (by first | (with_reducible assumption) | assumption)
                      have q224 : x5_1 < (l0_1.length : Int) := of_decide_eq_true (by first | (with_reducible assumption) | assumption)
                      obtain ⟨ad224, A224_0, c224_0, A224_1, c224_1, A224_6, c224_6, A224_7, c224_7, e224, hx224_0, hx224_1, hx224_2, hx224_3, hx224_4, hx224_5, hx224_6, hx224_7, hl224_0, hi224_0, hl224_1, hi224_1, hl224_6, hi224_6, hl224_7, hi224_7⟩ := at_T46 HR0_1.out x5_1 p224 q224
                      cases e224
                      replace hx224_0 := (HB.out.cell (World.block_lt_of_cell? w _ hx224_0)).trans hx224_0
                      replace hx224_1 := (HB.out.cell (World.block_lt_of_cell? w _ hx224_1)).trans hx224_1
                      replace hx224_2 := (HB.out.cell (World.block_lt_of_cell? w _ hx224_2)).trans hx224_2
                      replace hx224_3 := (HB.out.cell (World.block_lt_of_cell? w _ hx224_3)).trans hx224_3
                      replace hx224_4 := (HB.out.cell (World.block_lt_of_cell? w _ hx224_4)).trans hx224_4
                      replace hx224_5 := (HB.out.cell (World.block_lt_of_cell? w _ hx224_5)).trans hx224_5
                      replace hx224_6 := (HB.out.cell (World.block_lt_of_cell? w _ hx224_6)).trans hx224_6
                      replace hx224_7 := (HB.out.cell (World.block_lt_of_cell? w _ hx224_7)).trans hx224_7
                      have HR224_0 := Aside0.mk hi224_0
                      have HC224_0 := Aside0.mk hl224_0
                      clear hi224_0 hl224_0
                      have HR224_1 := Aside0.mk hi224_1
                      have HC224_1 := Aside0.mk hl224_1
                      clear hi224_1 hl224_1
                      have HR224_6 := Aside0.mk hi224_6
                      have HC224_6 := Aside0.mk hl224_6
                      clear hi224_6 hl224_6
                      have HR224_7 := Aside0.mk hi224_7
                      have HC224_7 := Aside0.mk hl224_7
                      clear hi224_7 hl224_7
                      replace p224 := eq_true p224
                      replace q224 := eq_true q224
                      try go_wp2_with (first | ((with_reducible refine gate_dst (N := 6) rfl ?_); refine box_event ?hg (N := 6) ?hd (cs := #[.slice none 0 0, .slice none 0 0, .int .i64 0, .int .i64 0, .int .i64 0, .int .i64 0, .slice none 0 0, .slice none 0 0]) (t := 46) ?hr ?_; (case hd => rfl); (case hg => rfl); (case hr => first | (go_simp; done) | (go_simp; rfl)); intro gb225 hg w17 hbox hb; have n0_ := Aside0.mk (blk_below (g := gb222) (o := .cells #[.int .i64 a0_0, .slice (some ad224) l0_1.length c0_1] 41 (0, 0)) (by (with_reducible repeat (first | refine blk_drewN ?_ _ | refine blk_drew ?_ | refine blk_alloc ?_ _)); exact BK222.out) hb); have n1_ := Aside0.mk (below_step (by repeat (first | (with_reducible first | exact HB.out | apply below_alloc | apply pw_below_drewN | apply below_drew1 | refine below_set ?_ GE222.out) | exact HB.out)) hb); have n2_ := Aside0.mk (hbox); have n3_ := Aside0.mk ((by rw [hg]; exact (below_size (by repeat (first | (with_reducible first | exact HB.out | apply below_alloc | apply pw_below_drewN | apply below_drew1 | refine below_set ?_ GE222.out) | exact HB.out))) : w.heap.size ≤ gb225)); have n4_ := Aside0.mk ((by rw [hg]; exact (below_size (by repeat (first | (with_reducible first | exact HB.out | apply below_alloc | apply pw_below_drewN | apply below_drew1 | refine below_set ?_ GE222.out) | exact HB.out))) : w.heap.size ≤ gb225)); have n5_ := Aside0.mk ((by rw [hg]; exact Nat.ne_of_lt (blk_lt (g := gb222) (o := .cells #[.int .i64 a0_0, .slice (some ad224) l0_1.length c0_1] 41 (0, 0)) (by (with_reducible repeat (first | refine blk_drewN ?_ _ | refine blk_drew ?_ | refine blk_alloc ?_ _)); exact BK222.out)) : gb222 ≠ gb225)); have n6_ := Aside0.mk ((by rw [hg]; exact Nat.ne_of_gt (blk_lt (g := gb222) (o := .cells #[.int .i64 a0_0, .slice (some ad224) l0_1.length c0_1] 41 (0, 0)) (by (with_reducible repeat (first | refine blk_drewN ?_ _ | refine blk_drew ?_ | refine blk_alloc ?_ _)); exact BK222.out)) : gb225 ≠ gb222)); clear BK222; clear HB; have BK222 := n0_; have HB := n1_; have BK225 := n2_; have GW225 := n3_; have GE225 := n4_; have NB222_225 := n5_; have NB225_222 := n6_; clear n0_ n1_ n2_ n3_ n4_ n5_ n6_; clear hb hbox hg; have hnb18 := NB225_222.out; have hnc18 := NB222_225.out; have hcz19_0 : w17.cell? ⟨gb225, 0, none⟩ = some (.slice none 0 0) := (blk_cell BK225.out 0).trans rfl; have hcz19_1 : w17.cell? ⟨gb225, 1, none⟩ = some (.slice none 0 0) := (blk_cell BK225.out 1).trans rfl; have hcz19_2 : w17.cell? ⟨gb225, 2, none⟩ = some (.int .i64 0) := (blk_cell BK225.out 2).trans rfl; have hcz19_3 : w17.cell? ⟨gb225, 3, none⟩ = some (.int .i64 0) := (blk_cell BK225.out 3).trans rfl; have hcz19_4 : w17.cell? ⟨gb225, 4, none⟩ = some (.int .i64 0) := (blk_cell BK225.out 4).trans rfl; have hcz19_5 : w17.cell? ⟨gb225, 5, none⟩ = some (.int .i64 0) := (blk_cell BK225.out 5).trans rfl; have hcz19_6 : w17.cell? ⟨gb225, 6, none⟩ = some (.slice none 0 0) := (blk_cell BK225.out 6).trans rfl; have hcz19_7 : w17.cell? ⟨gb225, 7, none⟩ = some (.slice none 0 0) := (blk_cell BK225.out 7).trans rfl; have hfz19_0 := blk_frozen BK225.out 0; have hfz19_1 := blk_frozen BK225.out 1; have hfz19_2 := blk_frozen BK225.out 2; have hfz19_3 := blk_frozen BK225.out 3; have hfz19_4 := blk_frozen BK225.out 4; have hfz19_5 := blk_frozen BK225.out 5; have hfz19_6 := blk_frozen BK225.out 6; have hfz19_7 := blk_frozen BK225.out 7))
                      have n0_ : Aside0 (((((((((w17.setCell ⟨gb225, 0, none⟩ (.slice A224_0 ((rd_T46 l0_1 x5_1).f0).length c224_0)).setCell ⟨gb225, 1, none⟩ (.slice A224_1 ((rd_T46 l0_1 x5_1).f1).length c224_1)).setCell ⟨gb225, 2, none⟩ (.int .i64 ((rd_T46 l0_1 x5_1).f2.f0))).setCell ⟨gb225, 3, none⟩ (.int .i64 ((rd_T46 l0_1 x5_1).f2.f1))).setCell ⟨gb225, 4, none⟩ (.int .i64 ((rd_T46 l0_1 x5_1).f2.f2))).setCell ⟨gb225, 5, none⟩ (.int .i64 ((rd_T46 l0_1 x5_1).f2.f3))).setCell ⟨gb225, 6, none⟩ (.slice A224_6 ((rd_T46 l0_1 x5_1).f2.f4).length c224_6)).setCell ⟨gb225, 7, none⟩ (.slice A224_7 ((rd_T46 l0_1 x5_1).f2.f5).length c224_7)).heap[gb222]? = some (.cells #[.int .i64 a0_0, .slice (some ad224) l0_1.length c0_1] 41 (0, 0))) := ⟨by (with_reducible repeat (first | refine blk_drewN ?_ _ | refine blk_drew ?_ | refine blk_alloc ?_ _)); refine blk_far ?_ NB222_225.out _; (with_reducible repeat (first | refine blk_drewN ?_ _ | refine blk_drew ?_ | refine blk_alloc ?_ _)); refine blk_far ?_ NB222_225.out _; (with_reducible repeat (first | refine blk_drewN ?_ _ | refine blk_drew ?_ | refine blk_alloc ?_ _)); refine blk_far ?_ NB222_225.out _; (with_reducible repeat (first | refine blk_drewN ?_ _ | refine blk_drew ?_ | refine blk_alloc ?_ _)); refine blk_far ?_ NB222_225.out _; (with_reducible repeat (first | refine blk_drewN ?_ _ | refine blk_drew ?_ | refine blk_alloc ?_ _)); refine blk_far ?_ NB222_225.out _; (with_reducible repeat (first | refine blk_drewN ?_ _ | refine blk_drew ?_ | refine blk_alloc ?_ _)); refine blk_far ?_ NB222_225.out _; (with_reducible repeat (first | refine blk_drewN ?_ _ | refine blk_drew ?_ | refine blk_alloc ?_ _)); refine blk_far ?_ NB222_225.out _; (with_reducible repeat (first | refine blk_drewN ?_ _ | refine blk_drew ?_ | refine blk_alloc ?_ _)); refine blk_far ?_ NB222_225.out _; (with_reducible repeat (first | refine blk_drewN ?_ _ | refine blk_drew ?_ | refine blk_alloc ?_ _)); exact BK222.out⟩
                      have n1_ : Aside0 (((((((((w17.setCell ⟨gb225, 0, none⟩ (.slice A224_0 ((rd_T46 l0_1 x5_1).f0).length c224_0)).setCell ⟨gb225, 1, none⟩ (.slice A224_1 ((rd_T46 l0_1 x5_1).f1).length c224_1)).setCell ⟨gb225, 2, none⟩ (.int .i64 ((rd_T46 l0_1 x5_1).f2.f0))).setCell ⟨gb225, 3, none⟩ (.int .i64 ((rd_T46 l0_1 x5_1).f2.f1))).setCell ⟨gb225, 4, none⟩ (.int .i64 ((rd_T46 l0_1 x5_1).f2.f2))).setCell ⟨gb225, 5, none⟩ (.int .i64 ((rd_T46 l0_1 x5_1).f2.f3))).setCell ⟨gb225, 6, none⟩ (.slice A224_6 ((rd_T46 l0_1 x5_1).f2.f4).length c224_6)).setCell ⟨gb225, 7, none⟩ (.slice A224_7 ((rd_T46 l0_1 x5_1).f2.f5).length c224_7)).heap[gb225]? = some (.cells #[.slice A224_0 ((rd_T46 l0_1 x5_1).f0).length c224_0, .slice A224_1 ((rd_T46 l0_1 x5_1).f1).length c224_1, .int .i64 ((rd_T46 l0_1 x5_1).f2.f0), .int .i64 ((rd_T46 l0_1 x5_1).f2.f1), .int .i64 ((rd_T46 l0_1 x5_1).f2.f2), .int .i64 ((rd_T46 l0_1 x5_1).f2.f3), .slice A224_6 ((rd_T46 l0_1 x5_1).f2.f4).length c224_6, .slice A224_7 ((rd_T46 l0_1 x5_1).f2.f5).length c224_7] 46 (0, 0))) := ⟨by (with_reducible repeat (first | refine blk_drewN ?_ _ | refine blk_drew ?_ | refine blk_alloc ?_ _)); refine blk_put (cs := #[.slice A224_0 ((rd_T46 l0_1 x5_1).f0).length c224_0, .slice A224_1 ((rd_T46 l0_1 x5_1).f1).length c224_1, .int .i64 ((rd_T46 l0_1 x5_1).f2.f0), .int .i64 ((rd_T46 l0_1 x5_1).f2.f1), .int .i64 ((rd_T46 l0_1 x5_1).f2.f2), .int .i64 ((rd_T46 l0_1 x5_1).f2.f3), .slice A224_6 ((rd_T46 l0_1 x5_1).f2.f4).length c224_6, .slice none 0 0]) ?_ 7 _ rfl; (with_reducible repeat (first | refine blk_drewN ?_ _ | refine blk_drew ?_ | refine blk_alloc ?_ _)); refine blk_put (cs := #[.slice A224_0 ((rd_T46 l0_1 x5_1).f0).length c224_0, .slice A224_1 ((rd_T46 l0_1 x5_1).f1).length c224_1, .int .i64 ((rd_T46 l0_1 x5_1).f2.f0), .int .i64 ((rd_T46 l0_1 x5_1).f2.f1), .int .i64 ((rd_T46 l0_1 x5_1).f2.f2), .int .i64 ((rd_T46 l0_1 x5_1).f2.f3), .slice none 0 0, .slice none 0 0]) ?_ 6 _ rfl; (with_reducible repeat (first | refine blk_drewN ?_ _ | refine blk_drew ?_ | refine blk_alloc ?_ _)); refine blk_put (cs := #[.slice A224_0 ((rd_T46 l0_1 x5_1).f0).length c224_0, .slice A224_1 ((rd_T46 l0_1 x5_1).f1).length c224_1, .int .i64 ((rd_T46 l0_1 x5_1).f2.f0), .int .i64 ((rd_T46 l0_1 x5_1).f2.f1), .int .i64 ((rd_T46 l0_1 x5_1).f2.f2), .int .i64 0, .slice none 0 0, .slice none 0 0]) ?_ 5 _ rfl; (with_reducible repeat (first | refine blk_drewN ?_ _ | refine blk_drew ?_ | refine blk_alloc ?_ _)); refine blk_put (cs := #[.slice A224_0 ((rd_T46 l0_1 x5_1).f0).length c224_0, .slice A224_1 ((rd_T46 l0_1 x5_1).f1).length c224_1, .int .i64 ((rd_T46 l0_1 x5_1).f2.f0), .int .i64 ((rd_T46 l0_1 x5_1).f2.f1), .int .i64 0, .int .i64 0, .slice none 0 0, .slice none 0 0]) ?_ 4 _ rfl; (with_reducible repeat (first | refine blk_drewN ?_ _ | refine blk_drew ?_ | refine blk_alloc ?_ _)); refine blk_put (cs := #[.slice A224_0 ((rd_T46 l0_1 x5_1).f0).length c224_0, .slice A224_1 ((rd_T46 l0_1 x5_1).f1).length c224_1, .int .i64 ((rd_T46 l0_1 x5_1).f2.f0), .int .i64 0, .int .i64 0, .int .i64 0, .slice none 0 0, .slice none 0 0]) ?_ 3 _ rfl; (with_reducible repeat (first | refine blk_drewN ?_ _ | refine blk_drew ?_ | refine blk_alloc ?_ _)); refine blk_put (cs := #[.slice A224_0 ((rd_T46 l0_1 x5_1).f0).length c224_0, .slice A224_1 ((rd_T46 l0_1 x5_1).f1).length c224_1, .int .i64 0, .int .i64 0, .int .i64 0, .int .i64 0, .slice none 0 0, .slice none 0 0]) ?_ 2 _ rfl; (with_reducible repeat (first | refine blk_drewN ?_ _ | refine blk_drew ?_ | refine blk_alloc ?_ _)); refine blk_put (cs := #[.slice A224_0 ((rd_T46 l0_1 x5_1).f0).length c224_0, .slice none 0 0, .int .i64 0, .int .i64 0, .int .i64 0, .int .i64 0, .slice none 0 0, .slice none 0 0]) ?_ 1 _ rfl; (with_reducible repeat (first | refine blk_drewN ?_ _ | refine blk_drew ?_ | refine blk_alloc ?_ _)); refine blk_put (cs := #[.slice none 0 0, .slice none 0 0, .int .i64 0, .int .i64 0, .int .i64 0, .int .i64 0, .slice none 0 0, .slice none 0 0]) ?_ 0 _ rfl; (with_reducible repeat (first | refine blk_drewN ?_ _ | refine blk_drew ?_ | refine blk_alloc ?_ _)); exact BK225.out⟩
                      have n2_ : Aside0 (Below w.heap.size w ((((((((w17.setCell ⟨gb225, 0, none⟩ (.slice A224_0 ((rd_T46 l0_1 x5_1).f0).length c224_0)).setCell ⟨gb225, 1, none⟩ (.slice A224_1 ((rd_T46 l0_1 x5_1).f1).length c224_1)).setCell ⟨gb225, 2, none⟩ (.int .i64 ((rd_T46 l0_1 x5_1).f2.f0))).setCell ⟨gb225, 3, none⟩ (.int .i64 ((rd_T46 l0_1 x5_1).f2.f1))).setCell ⟨gb225, 4, none⟩ (.int .i64 ((rd_T46 l0_1 x5_1).f2.f2))).setCell ⟨gb225, 5, none⟩ (.int .i64 ((rd_T46 l0_1 x5_1).f2.f3))).setCell ⟨gb225, 6, none⟩ (.slice A224_6 ((rd_T46 l0_1 x5_1).f2.f4).length c224_6)).setCell ⟨gb225, 7, none⟩ (.slice A224_7 ((rd_T46 l0_1 x5_1).f2.f5).length c224_7))) := ⟨by repeat (first | (with_reducible first | exact HB.out | apply below_alloc | apply pw_below_drewN | apply below_drew1 | refine below_set ?_ GE222.out | refine below_set ?_ GE225.out) | exact HB.out)⟩
                      (try clear BK222)
                      (try clear BK225)
                      (try clear HB)
                      generalize ((((((((w17.setCell ⟨gb225, 0, none⟩ (.slice A224_0 ((rd_T46 l0_1 x5_1).f0).length c224_0)).setCell ⟨gb225, 1, none⟩ (.slice A224_1 ((rd_T46 l0_1 x5_1).f1).length c224_1)).setCell ⟨gb225, 2, none⟩ (.int .i64 ((rd_T46 l0_1 x5_1).f2.f0))).setCell ⟨gb225, 3, none⟩ (.int .i64 ((rd_T46 l0_1 x5_1).f2.f1))).setCell ⟨gb225, 4, none⟩ (.int .i64 ((rd_T46 l0_1 x5_1).f2.f2))).setCell ⟨gb225, 5, none⟩ (.int .i64 ((rd_T46 l0_1 x5_1).f2.f3))).setCell ⟨gb225, 6, none⟩ (.slice A224_6 ((rd_T46 l0_1 x5_1).f2.f4).length c224_6)).setCell ⟨gb225, 7, none⟩ (.slice A224_7 ((rd_T46 l0_1 x5_1).f2.f5).length c224_7)) = w20 at n0_ n1_ n2_ ⊢
                      have BK222 := n0_
                      have BK225 := n1_
                      have HB := n2_
                      clear n0_ n1_ n2_
                      have n0_ := Aside0.mk (blk_drew BK222.out)
                      have n1_ := Aside0.mk (blk_drew BK225.out)
                      have n2_ := Aside0.mk (below_drew1 HB.out)
                      clear BK222
                      clear BK225
                      clear HB
                      have BK222 := n0_
                      have BK225 := n1_
                      have HB := n2_
                      clear n0_ n1_ n2_
                      refine start_ (n := 11) (S := fun w' => w'.cell? ⟨gb225, 0, none⟩ = some (.slice A224_0 ((rd_T46 l0_1 x5_1).f0).length c224_0) ∧ w'.cell? ⟨gb225, 1, none⟩ = some (.slice A224_1 ((rd_T46 l0_1 x5_1).f1).length c224_1) ∧ w'.cell? ⟨gb225, 2, none⟩ = some (.int .i64 ((rd_T46 l0_1 x5_1).f2.f0)) ∧ w'.cell? ⟨gb225, 3, none⟩ = some (.int .i64 ((rd_T46 l0_1 x5_1).f2.f1)) ∧ w'.cell? ⟨gb225, 4, none⟩ = some (.int .i64 ((rd_T46 l0_1 x5_1).f2.f2)) ∧ w'.cell? ⟨gb225, 5, none⟩ = some (.int .i64 ((rd_T46 l0_1 x5_1).f2.f3)) ∧ w'.cell? ⟨gb225, 6, none⟩ = some (.slice A224_6 ((rd_T46 l0_1 x5_1).f2.f4).length c224_6) ∧ w'.cell? ⟨gb225, 7, none⟩ = some (.slice A224_7 ((rd_T46 l0_1 x5_1).f2.f5).length c224_7)) (ds := []) #[false, false, false, false, false, false, false, false, false, false, false] (by kernel_rfl) rfl rfl ⟨(blk_cell BK225.out 0).trans rfl, (blk_cell BK225.out 1).trans rfl, (blk_cell BK225.out 2).trans rfl, (blk_cell BK225.out 3).trans rfl, (blk_cell BK225.out 4).trans rfl, (blk_cell BK225.out 5).trans rfl, (blk_cell BK225.out 6).trans rfl, (blk_cell BK225.out 7).trans rfl⟩ (fun hHeld => ?_); refine with_tabW hallmarkref06_Func.tab6 hallmarkref06_Func.bits6 (fun HT_ HW_ => ?_)
                      generalize w20.drew = w21 at BK222 BK225 HB hHeld ⊢
                      refine pure_ (i := 0) (N := some 25) (v := ?_) (a' := ?_) #[true, false, false, false, false, false, false, false, false, false, false] rfl rfl (any_of HT_.out (by kernel_rfl)) (fun _ _ _ h => h) (Or.inl ⟨by rfl, ?_⟩) ?_ ?_
                      rotate_left
                      · intro w'
                        go_simp
                        with_reducible rfl
                      rotate_left
                      · simp only [Act.put, List.setIfInBounds_toArray, List.set_cons_zero, List.set_cons_succ, i64_w, i32_w]
                        rfl
                      refine pure_ (i := 1) (N := some 26) (v := ?_) (a' := ?_) #[true, true, false, false, false, false, false, false, false, false, false] rfl rfl (any_of HT_.out (by kernel_rfl)) (fun _ _ _ h => h) (Or.inl ⟨by rfl, ?_⟩) ?_ ?_
                      rotate_left
                      · intro w'
                        go_simp
                        with_reducible rfl
                      rotate_left
                      · simp only [Act.put, List.setIfInBounds_toArray, List.set_cons_zero, List.set_cons_succ, i64_w, i32_w]
                        rfl
                      refine pure_ (i := 5) (N := some 30) (v := ?_) (a' := ?_) #[true, true, false, false, false, true, false, false, false, false, false] rfl rfl (any_of HT_.out (by kernel_rfl)) (fun _ _ _ h => h) (Or.inl ⟨by rfl, ?_⟩) ?_ ?_
                      rotate_left
                      · intro w'
                        go_simp
                        with_reducible rfl
                      rotate_left
                      · simp only [Act.put, List.setIfInBounds_toArray, List.set_cons_zero, List.set_cons_succ, i64_w, i32_w]
                        rfl
                      refine take_ (i := 6) (N := some 31) (v := ?_) (a' := ?_) #[true, true, false, false, false, true, true, false, false, false, false] rfl rfl (take_ofW HT_.out HW_.out (by kernel_rfl)) (fun _ _ _ h => h) (Or.inl ⟨by rfl, ?_⟩) hHeld ?_ ?_
                      rotate_left
                      · rintro w' ⟨s0, s1, s2, s3, s4, s5, s6, s7⟩
                        go_simp
                        with_reducible rfl
                      rotate_left
                      · simp only [Act.put, List.setIfInBounds_toArray, List.set_cons_zero, List.set_cons_succ, i64_w, i32_w]
                        rfl
                      refine one_ (i := 2) (N := some 27) #[true, true, true, false, false, true, true, false, false, false, false] rfl rfl (one_of HT_.out (by kernel_rfl)) (by decide) (fun K hK => ?_)
                      refine goes_ Tryd.func31 (by kernel_rfl) rfl #[.int .i64 x5_1] (by rfl) rfl rfl (by (try simp only [List.map_toArray, List.map_cons, List.map_nil]); first | done | rfl | (simp only [List.length_drop, List.length_take]; rfl)) ?_
                      with_reducible refine (hallmarkref06_num.calls k1 x5_1 t226 _ A10.out).mono ?_
                      rintro e w22 ⟨rfl, hb⟩
                      refine ⟨_, rfl, ?_⟩
                      have n0_ := Aside0.mk (blk_below (g := gb222) (o := .cells #[.int .i64 a0_0, .slice (some ad224) l0_1.length c0_1] 41 (0, 0)) (by (with_reducible repeat (first | refine blk_drewN ?_ _ | refine blk_drew ?_ | refine blk_alloc ?_ _)); exact BK222.out) hb)
                      have n1_ := Aside0.mk (blk_below (g := gb225) (o := .cells #[.slice A224_0 ((rd_T46 l0_1 x5_1).f0).length c224_0, .slice A224_1 ((rd_T46 l0_1 x5_1).f1).length c224_1, .int .i64 ((rd_T46 l0_1 x5_1).f2.f0), .int .i64 ((rd_T46 l0_1 x5_1).f2.f1), .int .i64 ((rd_T46 l0_1 x5_1).f2.f2), .int .i64 ((rd_T46 l0_1 x5_1).f2.f3), .slice A224_6 ((rd_T46 l0_1 x5_1).f2.f4).length c224_6, .slice A224_7 ((rd_T46 l0_1 x5_1).f2.f5).length c224_7] 46 (0, 0)) (by (with_reducible repeat (first | refine blk_drewN ?_ _ | refine blk_drew ?_ | refine blk_alloc ?_ _)); exact BK225.out) hb)
                      have n2_ := Aside0.mk (below_step (by repeat (first | (with_reducible first | exact HB.out | apply below_alloc | apply pw_below_drewN | apply below_drew1 | refine below_set ?_ GE222.out | refine below_set ?_ GE225.out) | exact HB.out)) hb)
                      clear BK222
                      clear BK225
                      clear HB
                      have BK222 := n0_
                      have BK225 := n1_
                      have HB := n2_
                      clear n0_ n1_ n2_
                      (try clear hb)
                      (try clear hb2)
                      (try clear hk)
                      (try clear hi)
                      refine hK.out _ _ ⟨(blk_cell BK225.out 0).trans rfl, (blk_cell BK225.out 1).trans rfl, (blk_cell BK225.out 2).trans rfl, (blk_cell BK225.out 3).trans rfl, (blk_cell BK225.out 4).trans rfl, (blk_cell BK225.out 5).trans rfl, (blk_cell BK225.out 6).trans rfl, (blk_cell BK225.out 7).trans rfl⟩ (fun hHeld => ?_)
                      clear hK K
                      refine norm_ (a' := ?_) ?_ ?_
                      rotate_left
                      · show Act.put _ (some 27) _ = _
                        simp only [Act.put, List.setIfInBounds_toArray, List.set_cons_zero, List.set_cons_succ, i64_w, i32_w]
                        rfl
                      refine pure_ (i := 3) (N := some 28) (v := ?_) (a' := ?_) #[true, true, true, true, false, true, true, false, false, false, false] rfl rfl (any_of HT_.out (by kernel_rfl)) (fun _ _ _ h => h) (Or.inl ⟨by rfl, ?_⟩) ?_ ?_
                      rotate_left
                      · intro w'
                        go_simp
                        with_reducible rfl
                      rotate_left
                      · simp only [Act.put, List.setIfInBounds_toArray, List.set_cons_zero, List.set_cons_succ, i64_w, i32_w]
                        rfl
                      refine pure_ (i := 4) (N := some 29) (v := ?_) (a' := ?_) #[true, true, true, true, true, true, true, false, false, false, false] rfl rfl (any_of HT_.out (by kernel_rfl)) (fun _ _ _ h => h) (Or.inl ⟨by rfl, ?_⟩) ?_ ?_
                      rotate_left
                      · intro w'
                        go_simp
                        with_reducible rfl
                      rotate_left
                      · simp only [Act.put, List.setIfInBounds_toArray, List.set_cons_zero, List.set_cons_succ, i64_w, i32_w]
                        rfl
                      refine one_ (i := 7) (N := some 32) #[true, true, true, true, true, true, true, true, false, false, false] rfl rfl (one_of HT_.out (by kernel_rfl)) (by decide) (fun K hK => ?_)
                      refine goes_ Tryd.func19 (by kernel_rfl) rfl #[.slice A224_0 ((rd_T46 l0_1 x5_1).f0).length c224_0, .int .i64 0] (by rfl) rfl rfl (by (try simp only [List.map_toArray, List.map_cons, List.map_nil]); first | done | rfl | (simp only [List.length_drop, List.length_take]; rfl)) ?_
                      with_reducible refine (hallmarkref06_list.calls k1 _ _ ((rd_T46 l0_1 x5_1).f0) 0 t227 _ ?side1 ?side2 A13.out).mono ?_
                      (case side1 => repeat (first | exact (Kd.C_below HR224_0.out HB.out) | (with_reducible refine Kd.C_alloc ?_ _) | (with_reducible refine Kd.C_drewN ?_ _) | (with_reducible refine Kd.C_drew ?_)))
                      (case side2 => exact HC224_0.out)
                      rintro e w23 ⟨rfl, hb⟩
                      refine ⟨_, rfl, ?_⟩
                      have n0_ := Aside0.mk (blk_below (g := gb222) (o := .cells #[.int .i64 a0_0, .slice (some ad224) l0_1.length c0_1] 41 (0, 0)) (by (with_reducible repeat (first | refine blk_drewN ?_ _ | refine blk_drew ?_ | refine blk_alloc ?_ _)); exact BK222.out) hb)
                      have n1_ := Aside0.mk (blk_below (g := gb225) (o := .cells #[.slice A224_0 ((rd_T46 l0_1 x5_1).f0).length c224_0, .slice A224_1 ((rd_T46 l0_1 x5_1).f1).length c224_1, .int .i64 ((rd_T46 l0_1 x5_1).f2.f0), .int .i64 ((rd_T46 l0_1 x5_1).f2.f1), .int .i64 ((rd_T46 l0_1 x5_1).f2.f2), .int .i64 ((rd_T46 l0_1 x5_1).f2.f3), .slice A224_6 ((rd_T46 l0_1 x5_1).f2.f4).length c224_6, .slice A224_7 ((rd_T46 l0_1 x5_1).f2.f5).length c224_7] 46 (0, 0)) (by (with_reducible repeat (first | refine blk_drewN ?_ _ | refine blk_drew ?_ | refine blk_alloc ?_ _)); exact BK225.out) hb)
                      have n2_ := Aside0.mk (below_step (by repeat (first | (with_reducible first | exact HB.out | apply below_alloc | apply pw_below_drewN | apply below_drew1 | refine below_set ?_ GE222.out | refine below_set ?_ GE225.out) | exact HB.out)) hb)
                      clear BK222
                      clear BK225
                      clear HB
                      have BK222 := n0_
                      have BK225 := n1_
                      have HB := n2_
                      clear n0_ n1_ n2_
                      (try clear hb)
                      (try clear hb2)
                      (try clear hk)
                      (try clear hi)
                      refine hK.out _ _ ⟨(blk_cell BK225.out 0).trans rfl, (blk_cell BK225.out 1).trans rfl, (blk_cell BK225.out 2).trans rfl, (blk_cell BK225.out 3).trans rfl, (blk_cell BK225.out 4).trans rfl, (blk_cell BK225.out 5).trans rfl, (blk_cell BK225.out 6).trans rfl, (blk_cell BK225.out 7).trans rfl⟩ (fun hHeld => ?_)
                      clear hK K
                      refine norm_ (a' := ?_) ?_ ?_
                      rotate_left
                      · show Act.put _ (some 32) _ = _
                        simp only [Act.put, List.setIfInBounds_toArray, List.set_cons_zero, List.set_cons_succ, i64_w, i32_w]
                        rfl
                      refine pure_ (i := 8) (N := some 33) (v := ?_) (a' := ?_) #[true, true, true, true, true, true, true, true, true, false, false] rfl rfl (any_of HT_.out (by kernel_rfl)) (fun _ _ _ h => h) (Or.inl ⟨by rfl, ?_⟩) ?_ ?_
                      rotate_left
                      · intro w'
                        go_simp
                        with_reducible rfl
                      rotate_left
                      · simp only [Act.put, List.setIfInBounds_toArray, List.set_cons_zero, List.set_cons_succ, i64_w, i32_w]
                        rfl
                      refine pure_ (i := 9) (N := some 34) (v := ?_) (a' := ?_) #[true, true, true, true, true, true, true, true, true, true, false] rfl rfl (any_of HT_.out (by kernel_rfl)) (fun _ _ _ h => h) (Or.inl ⟨by rfl, ?_⟩) ?_ ?_
                      rotate_left
                      · intro w'
                        go_simp
                        with_reducible rfl
                      rotate_left
                      · simp only [Act.put, List.setIfInBounds_toArray, List.set_cons_zero, List.set_cons_succ, i64_w, i32_w]
                        rfl
                      refine pure_ (i := 10) (N := some 3) (v := ?_) (a' := ?_) #[true, true, true, true, true, true, true, true, true, true, true] rfl rfl (any_of HT_.out (by kernel_rfl)) (fun _ _ _ h => h) (Or.inl ⟨by rfl, ?_⟩) ?_ ?_
                      rotate_left
                      · intro w'
                        go_simp
                        with_reducible rfl
                      rotate_left
                      · simp only [Act.put, List.setIfInBounds_toArray, List.set_cons_zero, List.set_cons_succ, i64_w, i32_w]
                        rfl
                      refine done_ (done_of HT_.out (by kernel_rfl)) ?_
                      have hcz24_0 : w23.cell? ⟨gb225, 0, none⟩ = some (.slice A224_0 ((rd_T46 l0_1 x5_1).f0).length c224_0) := (blk_cell BK225.out 0).trans rfl
                      have hcz24_1 : w23.cell? ⟨gb225, 1, none⟩ = some (.slice A224_1 ((rd_T46 l0_1 x5_1).f1).length c224_1) := (blk_cell BK225.out 1).trans rfl
                      have hcz24_2 : w23.cell? ⟨gb225, 2, none⟩ = some (.int .i64 ((rd_T46 l0_1 x5_1).f2.f0)) := (blk_cell BK225.out 2).trans rfl
                      have hcz24_3 : w23.cell? ⟨gb225, 3, none⟩ = some (.int .i64 ((rd_T46 l0_1 x5_1).f2.f1)) := (blk_cell BK225.out 3).trans rfl
                      have hcz24_4 : w23.cell? ⟨gb225, 4, none⟩ = some (.int .i64 ((rd_T46 l0_1 x5_1).f2.f2)) := (blk_cell BK225.out 4).trans rfl
                      have hcz24_5 : w23.cell? ⟨gb225, 5, none⟩ = some (.int .i64 ((rd_T46 l0_1 x5_1).f2.f3)) := (blk_cell BK225.out 5).trans rfl
                      have hcz24_6 : w23.cell? ⟨gb225, 6, none⟩ = some (.slice A224_6 ((rd_T46 l0_1 x5_1).f2.f4).length c224_6) := (blk_cell BK225.out 6).trans rfl
                      have hcz24_7 : w23.cell? ⟨gb225, 7, none⟩ = some (.slice A224_7 ((rd_T46 l0_1 x5_1).f2.f5).length c224_7) := (blk_cell BK225.out 7).trans rfl
                      have hfz24_0 := blk_frozen BK225.out 0
                      have hfz24_1 := blk_frozen BK225.out 1
                      have hfz24_2 := blk_frozen BK225.out 2
                      have hfz24_3 := blk_frozen BK225.out 3
                      have hfz24_4 := blk_frozen BK225.out 4
                      have hfz24_5 := blk_frozen BK225.out 5
                      have hfz24_6 := blk_frozen BK225.out 6
                      have hfz24_7 := blk_frozen BK225.out 7
                      try go_wp2
                      go_loopg [3, 4, 7] k1 (fun kq v3 v4 v7 w' => ∃ (x3_2 : ByteArray) (x4_2 : Int) (x7_2 : Int), v3 = .string x3_2 ∧ v4 = .int .i64 x4_2 ∧ v7 = .int .i64 x7_2 ∧ Aside0 (hallmarkref06_Func.l1 kq x3_2 x4_2 x5_1 x7_2 a0_0 l0_1 ((rd_T46 l0_1 x5_1).f0) ((rd_T46 l0_1 x5_1).f1) ((rd_T46 l0_1 x5_1).f2.f0) ((rd_T46 l0_1 x5_1).f2.f1) ((rd_T46 l0_1 x5_1).f2.f2) ((rd_T46 l0_1 x5_1).f2.f3) ((rd_T46 l0_1 x5_1).f2.f4) ((rd_T46 l0_1 x5_1).f2.f5) = some r) ∧ Aside0 (kq ≤ k1) ∧ Aside0 (w'.heap[gb222]? = some (.cells #[.int .i64 a0_0, (.slice (some ad224) l0_1.length c0_1)] 41 (0, 0))) ∧ Aside0 (w'.heap[gb225]? = some (.cells #[(.slice A224_0 ((rd_T46 l0_1 x5_1).f0).length c224_0), (.slice A224_1 ((rd_T46 l0_1 x5_1).f1).length c224_1), .int .i64 ((rd_T46 l0_1 x5_1).f2.f0), .int .i64 ((rd_T46 l0_1 x5_1).f2.f1), .int .i64 ((rd_T46 l0_1 x5_1).f2.f2), .int .i64 ((rd_T46 l0_1 x5_1).f2.f3), (.slice A224_6 ((rd_T46 l0_1 x5_1).f2.f4).length c224_6), (.slice A224_7 ((rd_T46 l0_1 x5_1).f2.f5).length c224_7)] 46 (0, 0))) ∧ Aside0 (Below w.heap.size w w'))
                      case atStart => exact ⟨((((x3_1 ++ t226) ++ (⟨#[40]⟩ : ByteArray)) ++ t227) ++ (⟨#[41, 10]⟩ : ByteArray)), (wrap64 (x4_1 + (((rd_T46 l0_1 x5_1).f0).length : Int))), (0), (by first | rfl | (simp; done) | (simp [*]; done)), (by first | rfl | (simp; done) | (simp [*]; done)), (by first | rfl | (simp; done) | (simp [*]; done)), H', ⟨Nat.le_refl _⟩, ⟨by (with_reducible repeat (first | refine blk_drewN ?_ _ | refine blk_drew ?_ | refine blk_alloc ?_ _)); exact BK222.out⟩, ⟨by (with_reducible repeat (first | refine blk_drewN ?_ _ | refine blk_drew ?_ | refine blk_alloc ?_ _)); exact BK225.out⟩, ⟨by repeat (first | (with_reducible first | exact HB.out | apply below_alloc | apply pw_below_drewN | apply below_drew1 | refine below_set ?_ GE222.out | refine below_set ?_ GE225.out) | exact HB.out)⟩⟩
                      case round =>
                        clear H'
                        try clear c1
                        try clear c2
                        try clear p2
                        try clear q2
                        try clear hx2
                        try clear c3
                        try clear c3b0
                        try clear c3b1
                        try clear c3b2
                        try clear c4
                        try clear c4b0
                        try clear c4b1
                        try clear c4b2
                        try clear p6
                        try clear c8
                        try clear c8b0
                        try clear c9
                        try clear c9b0
                        try clear c11
                        try clear c11b0
                        try clear c11b1
                        try clear c11b2
                        try clear c12
                        try clear c12b0
                        try clear c12b1
                        try clear c12b2
                        try clear c14
                        try clear c14b0
                        try clear c14b1
                        try clear c14b2
                        try clear c15
                        try clear c15b0
                        try clear c15b1
                        try clear c15b2
                        try clear c18
                        try clear c19
                        try clear c20
                        try clear c21
                        try clear c22
                        try clear p22
                        try clear q22
                        try clear hx22
                        try clear hcz16_0
                        try clear hcz16_1
                        try clear hcz19_0
                        try clear hcz19_1
                        try clear hcz19_2
                        try clear hcz19_3
                        try clear hcz19_4
                        try clear hcz19_5
                        try clear hcz19_6
                        try clear hcz19_7
                        try clear hcz24_0
                        try clear hcz24_1
                        try clear hcz24_2
                        try clear hcz24_3
                        try clear hcz24_4
                        try clear hcz24_5
                        try clear hcz24_6
                        try clear hcz24_7
                        try clear hcz6_0
                        try clear hcz6_1
                        try clear hfz16_0
                        try clear hfz16_1
                        try clear hfz19_0
                        try clear hfz19_1
                        try clear hfz19_2
                        try clear hfz19_3
                        try clear hfz19_4
                        try clear hfz19_5
                        try clear hfz19_6
                        try clear hfz19_7
                        try clear hfz24_0
                        try clear hfz24_1
                        try clear hfz24_2
                        try clear hfz24_3
                        try clear hfz24_4
                        try clear hfz24_5
                        try clear hfz24_6
                        try clear hfz24_7
                        try clear hfz6_0
                        try clear hfz6_1
                        try clear hx224_0
                        try clear hx224_1
                        try clear hx224_2
                        try clear hx224_3
                        try clear hx224_4
                        try clear hx224_5
                        try clear hx224_6
                        try clear hx224_7
                        try clear p2
                        try clear p224
                        try clear q224
                        obtain ⟨x3_2, x4_2, x7_2, rfl, rfl, rfl, HA, HK2, BK222, BK225, HB⟩ := hrel
                        cases gk with
                        | zero => exact absurd HA.out (by simp [hallmarkref06_Func.l1])
                        | succ k2 =>
                          have H := HA.out
                          clear HA
                          simp only [hallmarkref06_Func.l1] at H
                          by_cases c25 : x7_2 < (((rd_T46 l0_1 x5_1).f1).length : Int)
                          · rw [if_pos c25] at H
                            have c25b0 : decide (x7_2 < (((rd_T46 l0_1 x5_1).f1).length : Int)) = true := decide_eq_true c25
                            clear c25
                            by_cases c26 : x3_2.size + 3 ≤ 9223372036854775807
                            · rw [if_pos c26] at H
                              have c26b0 := eq_true c26
                              have c26b1 : decide (x3_2.size + 3 ≤ 9223372036854775807) = true := decide_eq_true c26
                              try have c26b2 : (9223372036854775807 < x3_2.size + 3) = False := eq_false (Nat.not_lt.2 c26)
                              replace H := Option.bind_eq_some_iff.mp H
                              obtain ⟨t228, A270, H⟩ := H
                              replace H : (if (x3_2 ++ (⟨#[32, 32, 118]⟩ : ByteArray)).size + t228.size ≤ 9223372036854775807 then (if ((x3_2 ++ (⟨#[32, 32, 118]⟩ : ByteArray)) ++ t228).size + 3 ≤ 9223372036854775807 then (if 0 ≤ x7_2 then ((hallmarkref06_Op.f k2 ((rd_T48 ((rd_T46 l0_1 x5_1).f1) x7_2).f0) ((rd_T48 ((rd_T46 l0_1 x5_1).f1) x7_2).f1) ((rd_T48 ((rd_T46 l0_1 x5_1).f1) x7_2).f2) ((rd_T48 ((rd_T46 l0_1 x5_1).f1) x7_2).f3) ((rd_T48 ((rd_T46 l0_1 x5_1).f1) x7_2).f4) ((rd_T48 ((rd_T46 l0_1 x5_1).f1) x7_2).f5) ((rd_T48 ((rd_T46 l0_1 x5_1).f1) x7_2).f6) ((rd_T48 ((rd_T46 l0_1 x5_1).f1) x7_2).f7)).bind fun t230 => (if (((x3_2 ++ (⟨#[32, 32, 118]⟩ : ByteArray)) ++ t228) ++ (⟨#[32, 61, 32]⟩ : ByteArray)).size + t230.size ≤ 9223372036854775807 then (if ((((x3_2 ++ (⟨#[32, 32, 118]⟩ : ByteArray)) ++ t228) ++ (⟨#[32, 61, 32]⟩ : ByteArray)) ++ t230).size + 1 ≤ 9223372036854775807 then (hallmarkref06_Func.l1 k2 (((((x3_2 ++ (⟨#[32, 32, 118]⟩ : ByteArray)) ++ t228) ++ (⟨#[32, 61, 32]⟩ : ByteArray)) ++ t230) ++ (⟨#[10]⟩ : ByteArray)) (wrap64 (x4_2 + 1)) x5_1 (wrap64 (x7_2 + 1)) a0_0 l0_1 ((rd_T46 l0_1 x5_1).f0) ((rd_T46 l0_1 x5_1).f1) ((rd_T46 l0_1 x5_1).f2.f0) ((rd_T46 l0_1 x5_1).f2.f1) ((rd_T46 l0_1 x5_1).f2.f2) ((rd_T46 l0_1 x5_1).f2.f3) ((rd_T46 l0_1 x5_1).f2.f4) ((rd_T46 l0_1 x5_1).f2.f5)) else (none)) else (none))) else (none)) else (none)) else (none)) = some r := H
                              have A27 := Aside0.mk A270
                              clear A270
                              by_cases c28 : (x3_2 ++ (⟨#[32, 32, 118]⟩ : ByteArray)).size + t228.size ≤ 9223372036854775807
                              · rw [if_pos c28] at H
                                have c28b0 := eq_true c28
                                have c28b1 : decide ((x3_2 ++ (⟨#[32, 32, 118]⟩ : ByteArray)).size + t228.size ≤ 9223372036854775807) = true := decide_eq_true c28
                                try have c28b2 : (9223372036854775807 < (x3_2 ++ (⟨#[32, 32, 118]⟩ : ByteArray)).size + t228.size) = False := eq_false (Nat.not_lt.2 c28)
                                have c28b3 := Nat.not_lt.2 c28
                                simp only [ByteArray.size_append', ByteArray.size_mk', List.size_toArray, List.length_cons, List.length_nil, Nat.zero_add, Nat.reduceAdd] at c28b3
                                replace c28b3 := eq_false c28b3
                                by_cases c29 : ((x3_2 ++ (⟨#[32, 32, 118]⟩ : ByteArray)) ++ t228).size + 3 ≤ 9223372036854775807
                                · rw [if_pos c29] at H
                                  have c29b0 := eq_true c29
                                  have c29b1 : decide (((x3_2 ++ (⟨#[32, 32, 118]⟩ : ByteArray)) ++ t228).size + 3 ≤ 9223372036854775807) = true := decide_eq_true c29
                                  try have c29b2 : (9223372036854775807 < ((x3_2 ++ (⟨#[32, 32, 118]⟩ : ByteArray)) ++ t228).size + 3) = False := eq_false (Nat.not_lt.2 c29)
                                  have c29b3 := Nat.not_lt.2 c29
                                  simp only [ByteArray.size_append', ByteArray.size_mk', List.size_toArray, List.length_cons, List.length_nil, Nat.zero_add, Nat.reduceAdd] at c29b3
                                  replace c29b3 := eq_false c29b3
                                  by_cases c30 : 0 ≤ x7_2
                                  · rw [if_pos c30] at H
                                    have c30b0 : decide (0 ≤ x7_2) = true := decide_eq_true c30
                                    clear c30
                                    replace H := Option.bind_eq_some_iff.mp H
                                    obtain ⟨t230, A310, H⟩ := H
                                    replace H : (if (((x3_2 ++ (⟨#[32, 32, 118]⟩ : ByteArray)) ++ t228) ++ (⟨#[32, 61, 32]⟩ : ByteArray)).size + t230.size ≤ 9223372036854775807 then (if ((((x3_2 ++ (⟨#[32, 32, 118]⟩ : ByteArray)) ++ t228) ++ (⟨#[32, 61, 32]⟩ : ByteArray)) ++ t230).size + 1 ≤ 9223372036854775807 then (hallmarkref06_Func.l1 k2 (((((x3_2 ++ (⟨#[32, 32, 118]⟩ : ByteArray)) ++ t228) ++ (⟨#[32, 61, 32]⟩ : ByteArray)) ++ t230) ++ (⟨#[10]⟩ : ByteArray)) (wrap64 (x4_2 + 1)) x5_1 (wrap64 (x7_2 + 1)) a0_0 l0_1 ((rd_T46 l0_1 x5_1).f0) ((rd_T46 l0_1 x5_1).f1) ((rd_T46 l0_1 x5_1).f2.f0) ((rd_T46 l0_1 x5_1).f2.f1) ((rd_T46 l0_1 x5_1).f2.f2) ((rd_T46 l0_1 x5_1).f2.f3) ((rd_T46 l0_1 x5_1).f2.f4) ((rd_T46 l0_1 x5_1).f2.f5)) else (none)) else (none)) = some r := H
                                    have A31 := Aside0.mk A310
                                    clear A310
                                    by_cases c32 : (((x3_2 ++ (⟨#[32, 32, 118]⟩ : ByteArray)) ++ t228) ++ (⟨#[32, 61, 32]⟩ : ByteArray)).size + t230.size ≤ 9223372036854775807
                                    · rw [if_pos c32] at H
                                      have c32b0 := eq_true c32
                                      have c32b1 : decide ((((x3_2 ++ (⟨#[32, 32, 118]⟩ : ByteArray)) ++ t228) ++ (⟨#[32, 61, 32]⟩ : ByteArray)).size + t230.size ≤ 9223372036854775807) = true := decide_eq_true c32
                                      try have c32b2 : (9223372036854775807 < (((x3_2 ++ (⟨#[32, 32, 118]⟩ : ByteArray)) ++ t228) ++ (⟨#[32, 61, 32]⟩ : ByteArray)).size + t230.size) = False := eq_false (Nat.not_lt.2 c32)
                                      have c32b3 := Nat.not_lt.2 c32
                                      simp only [ByteArray.size_append', ByteArray.size_mk', List.size_toArray, List.length_cons, List.length_nil, Nat.zero_add, Nat.reduceAdd] at c32b3
                                      replace c32b3 := eq_false c32b3
                                      by_cases c33 : ((((x3_2 ++ (⟨#[32, 32, 118]⟩ : ByteArray)) ++ t228) ++ (⟨#[32, 61, 32]⟩ : ByteArray)) ++ t230).size + 1 ≤ 9223372036854775807
                                      · rw [if_pos c33] at H
                                        have c33b0 := eq_true c33
                                        have c33b1 : decide (((((x3_2 ++ (⟨#[32, 32, 118]⟩ : ByteArray)) ++ t228) ++ (⟨#[32, 61, 32]⟩ : ByteArray)) ++ t230).size + 1 ≤ 9223372036854775807) = true := decide_eq_true c33
                                        try have c33b2 : (9223372036854775807 < ((((x3_2 ++ (⟨#[32, 32, 118]⟩ : ByteArray)) ++ t228) ++ (⟨#[32, 61, 32]⟩ : ByteArray)) ++ t230).size + 1) = False := eq_false (Nat.not_lt.2 c33)
                                        have c33b3 := Nat.not_lt.2 c33
                                        simp only [ByteArray.size_append', ByteArray.size_mk', List.size_toArray, List.length_cons, List.length_nil, Nat.zero_add, Nat.reduceAdd] at c33b3
                                        replace c33b3 := eq_false c33b3
                                        have H' := Aside0.mk H
                                        clear H
                                        have hnb34 := NB225_222.out
                                        have hnc34 := NB222_225.out
                                        have hcz35_0 : wr.cell? ⟨gb225, 0, none⟩ = some (.slice A224_0 ((rd_T46 l0_1 x5_1).f0).length c224_0) := (blk_cell BK225.out 0).trans rfl
                                        have hcz35_1 : wr.cell? ⟨gb225, 1, none⟩ = some (.slice A224_1 ((rd_T46 l0_1 x5_1).f1).length c224_1) := (blk_cell BK225.out 1).trans rfl
                                        have hcz35_2 : wr.cell? ⟨gb225, 2, none⟩ = some (.int .i64 ((rd_T46 l0_1 x5_1).f2.f0)) := (blk_cell BK225.out 2).trans rfl
                                        have hcz35_3 : wr.cell? ⟨gb225, 3, none⟩ = some (.int .i64 ((rd_T46 l0_1 x5_1).f2.f1)) := (blk_cell BK225.out 3).trans rfl
                                        have hcz35_4 : wr.cell? ⟨gb225, 4, none⟩ = some (.int .i64 ((rd_T46 l0_1 x5_1).f2.f2)) := (blk_cell BK225.out 4).trans rfl
                                        have hcz35_5 : wr.cell? ⟨gb225, 5, none⟩ = some (.int .i64 ((rd_T46 l0_1 x5_1).f2.f3)) := (blk_cell BK225.out 5).trans rfl
                                        have hcz35_6 : wr.cell? ⟨gb225, 6, none⟩ = some (.slice A224_6 ((rd_T46 l0_1 x5_1).f2.f4).length c224_6) := (blk_cell BK225.out 6).trans rfl
                                        have hcz35_7 : wr.cell? ⟨gb225, 7, none⟩ = some (.slice A224_7 ((rd_T46 l0_1 x5_1).f2.f5).length c224_7) := (blk_cell BK225.out 7).trans rfl
                                        have hfz35_0 := blk_frozen BK225.out 0
                                        have hfz35_1 := blk_frozen BK225.out 1
                                        have hfz35_2 := blk_frozen BK225.out 2
                                        have hfz35_3 := blk_frozen BK225.out 3
                                        have hfz35_4 := blk_frozen BK225.out 4
                                        have hfz35_5 := blk_frozen BK225.out 5
                                        have hfz35_6 := blk_frozen BK225.out 6
                                        have hfz35_7 := blk_frozen BK225.out 7
                                        try go_wp2
                                        have n0_ := Aside0.mk (blk_drew BK222.out)
                                        have n1_ := Aside0.mk (blk_drew BK225.out)
                                        have n2_ := Aside0.mk (below_drew1 HB.out)
                                        clear BK222
                                        clear BK225
                                        clear HB
                                        have BK222 := n0_
                                        have BK225 := n1_
                                        have HB := n2_
                                        clear n0_ n1_ n2_
                                        have p229 : 0 ≤ (x7_2 : Int) := of_decide_eq_true (by first | (with_reducible assumption) | assumption)
                                        have q229 : x7_2 < (((rd_T46 l0_1 x5_1).f1).length : Int) := of_decide_eq_true (by first | (with_reducible assumption) | assumption)
                                        obtain ⟨ad229, A229_6, c229_6, e229, hx229_0, hx229_1, hx229_2, hx229_3, hx229_4, hx229_5, hx229_6, hx229_7, hl229_6, hi229_6⟩ := at_T48 HR224_1.out x7_2 p229 q229
                                        have hw229_7 := hx229_7
                                        have hw229_6 := hx229_6
                                        have hw229_5 := hx229_5
                                        have hw229_4 := hx229_4
                                        have hw229_3 := hx229_3
                                        have hw229_2 := hx229_2
                                        have hw229_1 := hx229_1
                                        have hw229_0 := hx229_0
                                        cases e229
                                        replace hx229_0 := (HB.out.cell (World.block_lt_of_cell? w _ hx229_0)).trans hx229_0
                                        replace hx229_1 := (HB.out.cell (World.block_lt_of_cell? w _ hx229_1)).trans hx229_1
                                        replace hx229_2 := (HB.out.cell (World.block_lt_of_cell? w _ hx229_2)).trans hx229_2
                                        replace hx229_3 := (HB.out.cell (World.block_lt_of_cell? w _ hx229_3)).trans hx229_3
                                        replace hx229_4 := (HB.out.cell (World.block_lt_of_cell? w _ hx229_4)).trans hx229_4
                                        replace hx229_5 := (HB.out.cell (World.block_lt_of_cell? w _ hx229_5)).trans hx229_5
                                        replace hx229_6 := (HB.out.cell (World.block_lt_of_cell? w _ hx229_6)).trans hx229_6
                                        replace hx229_7 := (HB.out.cell (World.block_lt_of_cell? w _ hx229_7)).trans hx229_7
                                        have HR229_6 := Aside0.mk hi229_6
                                        have HC229_6 := Aside0.mk hl229_6
                                        clear hi229_6 hl229_6
                                        replace p229 := eq_true p229
                                        replace q229 := eq_true q229
                                        refine start_ (n := 15) (S := fun w' => w'.cell? ⟨gb225, 0, none⟩ = some (.slice A224_0 ((rd_T46 l0_1 x5_1).f0).length c224_0) ∧ w'.cell? ⟨gb225, 1, none⟩ = some (.slice (some ad229) ((rd_T46 l0_1 x5_1).f1).length c224_1) ∧ w'.cell? ⟨gb225, 2, none⟩ = some (.int .i64 ((rd_T46 l0_1 x5_1).f2.f0)) ∧ w'.cell? ⟨gb225, 3, none⟩ = some (.int .i64 ((rd_T46 l0_1 x5_1).f2.f1)) ∧ w'.cell? ⟨gb225, 4, none⟩ = some (.int .i64 ((rd_T46 l0_1 x5_1).f2.f2)) ∧ w'.cell? ⟨gb225, 5, none⟩ = some (.int .i64 ((rd_T46 l0_1 x5_1).f2.f3)) ∧ w'.cell? ⟨gb225, 6, none⟩ = some (.slice A224_6 ((rd_T46 l0_1 x5_1).f2.f4).length c224_6) ∧ w'.cell? ⟨gb225, 7, none⟩ = some (.slice A224_7 ((rd_T46 l0_1 x5_1).f2.f5).length c224_7) ∧ w'.cell? (ad229.add ((x7_2).toNat * 8)) = some (.int .i64 ((rd_T48 ((rd_T46 l0_1 x5_1).f1) x7_2).f0)) ∧ w'.cell? ⟨(ad229.add ((x7_2).toNat * 8)).block, (ad229.add ((x7_2).toNat * 8)).off + 1, none⟩ = some (.int .i64 ((rd_T48 ((rd_T46 l0_1 x5_1).f1) x7_2).f1)) ∧ w'.cell? ⟨(ad229.add ((x7_2).toNat * 8)).block, (ad229.add ((x7_2).toNat * 8)).off + 2, none⟩ = some (.int .i64 ((rd_T48 ((rd_T46 l0_1 x5_1).f1) x7_2).f2)) ∧ w'.cell? ⟨(ad229.add ((x7_2).toNat * 8)).block, (ad229.add ((x7_2).toNat * 8)).off + 3, none⟩ = some (.int .i64 ((rd_T48 ((rd_T46 l0_1 x5_1).f1) x7_2).f3)) ∧ w'.cell? ⟨(ad229.add ((x7_2).toNat * 8)).block, (ad229.add ((x7_2).toNat * 8)).off + 4, none⟩ = some (.int .i64 ((rd_T48 ((rd_T46 l0_1 x5_1).f1) x7_2).f4)) ∧ w'.cell? ⟨(ad229.add ((x7_2).toNat * 8)).block, (ad229.add ((x7_2).toNat * 8)).off + 5, none⟩ = some (.string ((rd_T48 ((rd_T46 l0_1 x5_1).f1) x7_2).f5)) ∧ w'.cell? ⟨(ad229.add ((x7_2).toNat * 8)).block, (ad229.add ((x7_2).toNat * 8)).off + 6, none⟩ = some (.slice A229_6 ((rd_T48 ((rd_T46 l0_1 x5_1).f1) x7_2).f6).length c229_6) ∧ w'.cell? ⟨(ad229.add ((x7_2).toNat * 8)).block, (ad229.add ((x7_2).toNat * 8)).off + 7, none⟩ = some (.bool ((rd_T48 ((rd_T46 l0_1 x5_1).f1) x7_2).f7))) (ds := []) #[false, false, false, false, false, false, false, false, false, false, false, false, false, false, false] (by kernel_rfl) rfl rfl ⟨(blk_cell BK225.out 0).trans rfl, (blk_cell BK225.out 1).trans rfl, (blk_cell BK225.out 2).trans rfl, (blk_cell BK225.out 3).trans rfl, (blk_cell BK225.out 4).trans rfl, (blk_cell BK225.out 5).trans rfl, (blk_cell BK225.out 6).trans rfl, (blk_cell BK225.out 7).trans rfl, ((HB.out.cell (World.block_lt_of_cell? w _ hw229_0)).trans hw229_0), ((HB.out.cell (World.block_lt_of_cell? w _ hw229_1)).trans hw229_1), ((HB.out.cell (World.block_lt_of_cell? w _ hw229_2)).trans hw229_2), ((HB.out.cell (World.block_lt_of_cell? w _ hw229_3)).trans hw229_3), ((HB.out.cell (World.block_lt_of_cell? w _ hw229_4)).trans hw229_4), ((HB.out.cell (World.block_lt_of_cell? w _ hw229_5)).trans hw229_5), ((HB.out.cell (World.block_lt_of_cell? w _ hw229_6)).trans hw229_6), ((HB.out.cell (World.block_lt_of_cell? w _ hw229_7)).trans hw229_7)⟩ (fun hHeld => ?_); refine with_tabW hallmarkref06_Func.tab11 hallmarkref06_Func.bits11 (fun HT_ HW_ => ?_)
                                        generalize wr.drew = w36 at BK222 BK225 HB HR229_6 hx229_0 hx229_1 hx229_2 hx229_3 hx229_4 hx229_5 hx229_6 hx229_7 hHeld ⊢
                                        refine pure_ (i := 0) (N := some 47) (v := ?_) (a' := ?_) #[true, false, false, false, false, false, false, false, false, false, false, false, false, false, false] rfl rfl (any_of HT_.out (by kernel_rfl)) (fun _ _ _ h => h) (Or.inl ⟨by rfl, ?_⟩) ?_ ?_
                                        rotate_left
                                        · intro w'
                                          go_simp
                                          with_reducible rfl
                                        rotate_left
                                        · simp only [Act.put, List.setIfInBounds_toArray, List.set_cons_zero, List.set_cons_succ, i64_w, i32_w]
                                          rfl
                                        refine pure_ (i := 1) (N := some 48) (v := ?_) (a' := ?_) #[true, true, false, false, false, false, false, false, false, false, false, false, false, false, false] rfl rfl (any_of HT_.out (by kernel_rfl)) (fun _ _ _ h => h) (Or.inl ⟨by rfl, ?_⟩) ?_ ?_
                                        rotate_left
                                        · intro w'
                                          go_simp
                                          with_reducible rfl
                                        rotate_left
                                        · simp only [Act.put, List.setIfInBounds_toArray, List.set_cons_zero, List.set_cons_succ, i64_w, i32_w]
                                          rfl
                                        refine pure_ (i := 2) (N := some 49) (v := ?_) (a' := ?_) #[true, true, true, false, false, false, false, false, false, false, false, false, false, false, false] rfl rfl (any_of HT_.out (by kernel_rfl)) (fun _ _ _ h => h) (Or.inl ⟨by rfl, ?_⟩) ?_ ?_
                                        rotate_left
                                        · intro w'
                                          go_simp
                                          with_reducible rfl
                                        rotate_left
                                        · simp only [Act.put, List.setIfInBounds_toArray, List.set_cons_zero, List.set_cons_succ, i64_w, i32_w]
                                          rfl
                                        refine pure_ (i := 6) (N := some 53) (v := ?_) (a' := ?_) #[true, true, true, false, false, false, true, false, false, false, false, false, false, false, false] rfl rfl (any_of HT_.out (by kernel_rfl)) (fun _ _ _ h => h) (Or.inl ⟨by rfl, ?_⟩) ?_ ?_
                                        rotate_left
                                        · intro w'
                                          go_simp
                                          with_reducible rfl
                                        rotate_left
                                        · simp only [Act.put, List.setIfInBounds_toArray, List.set_cons_zero, List.set_cons_succ, i64_w, i32_w]
                                          rfl
                                        refine pure_ (i := 8) (N := some 55) (v := ?_) (a' := ?_) #[true, true, true, false, false, false, true, false, true, false, false, false, false, false, false] rfl rfl (any_of HT_.out (by kernel_rfl)) (fun _ _ _ h => h) (Or.inl ⟨by rfl, ?_⟩) ?_ ?_
                                        rotate_left
                                        · intro w'
                                          go_simp
                                          with_reducible rfl
                                        rotate_left
                                        · simp only [Act.put, List.setIfInBounds_toArray, List.set_cons_zero, List.set_cons_succ, i64_w, i32_w]
                                          rfl
                                        refine take_ (i := 7) (N := some 54) (v := ?_) (a' := ?_) #[true, true, true, false, false, false, true, true, true, false, false, false, false, false, false] rfl rfl (take_ofW HT_.out HW_.out (by kernel_rfl)) (fun _ _ _ h => h) (Or.inl ⟨by rfl, ?_⟩) hHeld ?_ ?_
                                        rotate_left
                                        · rintro w' ⟨s0, s1, s2, s3, s4, s5, s6, s7, s8, s9, s10, s11, s12, s13, s14, s15⟩
                                          go_simp
                                          with_reducible rfl
                                        rotate_left
                                        · simp only [Act.put, List.setIfInBounds_toArray, List.set_cons_zero, List.set_cons_succ, i64_w, i32_w]
                                          rfl
                                        refine pure_ (i := 9) (N := some 56) (v := ?_) (a' := ?_) #[true, true, true, false, false, false, true, true, true, true, false, false, false, false, false] rfl rfl (any_of HT_.out (by kernel_rfl)) (fun _ _ _ h => h) (Or.inl ⟨by rfl, ?_⟩) ?_ ?_
                                        rotate_left
                                        · intro w'
                                          go_simp
                                          with_reducible rfl
                                        rotate_left
                                        · simp only [Act.put, List.setIfInBounds_toArray, List.set_cons_zero, List.set_cons_succ, i64_w, i32_w]
                                          rfl
                                        refine take_ (i := 10) (N := some 57) (v := ?_) (a' := ?_) #[true, true, true, false, false, false, true, true, true, true, true, false, false, false, false] rfl rfl (take_ofW HT_.out HW_.out (by kernel_rfl)) (fun _ _ _ h => h) (Or.inl ⟨by rfl, ?_⟩) hHeld ?_ ?_
                                        rotate_left
                                        · rintro w' ⟨s0, s1, s2, s3, s4, s5, s6, s7, s8, s9, s10, s11, s12, s13, s14, s15⟩
                                          go_simp
                                          with_reducible rfl
                                        rotate_left
                                        · simp only [Act.put, List.setIfInBounds_toArray, List.set_cons_zero, List.set_cons_succ, i64_w, i32_w]
                                          rfl
                                        refine one_ (i := 3) (N := some 50) #[true, true, true, true, false, false, true, true, true, true, true, false, false, false, false] rfl rfl (one_of HT_.out (by kernel_rfl)) (by decide) (fun K hK => ?_)
                                        refine goes_ Tryd.func31 (by kernel_rfl) rfl #[.int .i64 x4_2] (by rfl) rfl rfl (by (try simp only [List.map_toArray, List.map_cons, List.map_nil]); first | done | rfl | (simp only [List.length_drop, List.length_take]; rfl)) ?_
                                        with_reducible refine (hallmarkref06_num.calls k2 x4_2 t228 _ A27.out).mono ?_
                                        rintro e w37 ⟨rfl, hb⟩
                                        refine ⟨_, rfl, ?_⟩
                                        have n0_ := Aside0.mk (blk_below (g := gb222) (o := .cells #[.int .i64 a0_0, .slice (some ad224) l0_1.length c0_1] 41 (0, 0)) (by (with_reducible repeat (first | refine blk_drewN ?_ _ | refine blk_drew ?_ | refine blk_alloc ?_ _)); exact BK222.out) hb)
                                        have n1_ := Aside0.mk (blk_below (g := gb225) (o := .cells #[.slice A224_0 ((rd_T46 l0_1 x5_1).f0).length c224_0, .slice (some ad229) ((rd_T46 l0_1 x5_1).f1).length c224_1, .int .i64 ((rd_T46 l0_1 x5_1).f2.f0), .int .i64 ((rd_T46 l0_1 x5_1).f2.f1), .int .i64 ((rd_T46 l0_1 x5_1).f2.f2), .int .i64 ((rd_T46 l0_1 x5_1).f2.f3), .slice A224_6 ((rd_T46 l0_1 x5_1).f2.f4).length c224_6, .slice A224_7 ((rd_T46 l0_1 x5_1).f2.f5).length c224_7] 46 (0, 0)) (by (with_reducible repeat (first | refine blk_drewN ?_ _ | refine blk_drew ?_ | refine blk_alloc ?_ _)); exact BK225.out) hb)
                                        have n2_ := Aside0.mk (below_step (by repeat (first | (with_reducible first | exact HB.out | apply below_alloc | apply pw_below_drewN | apply below_drew1 | refine below_set ?_ GE222.out | refine below_set ?_ GE225.out) | exact HB.out)) hb)
                                        clear BK222
                                        clear BK225
                                        clear HB
                                        have BK222 := n0_
                                        have BK225 := n1_
                                        have HB := n2_
                                        clear n0_ n1_ n2_
                                        (try clear hb)
                                        (try clear hb2)
                                        (try clear hk)
                                        (try clear hi)
                                        refine hK.out _ _ ⟨(blk_cell BK225.out 0).trans rfl, (blk_cell BK225.out 1).trans rfl, (blk_cell BK225.out 2).trans rfl, (blk_cell BK225.out 3).trans rfl, (blk_cell BK225.out 4).trans rfl, (blk_cell BK225.out 5).trans rfl, (blk_cell BK225.out 6).trans rfl, (blk_cell BK225.out 7).trans rfl, ((HB.out.cell (World.block_lt_of_cell? w _ hw229_0)).trans hw229_0), ((HB.out.cell (World.block_lt_of_cell? w _ hw229_1)).trans hw229_1), ((HB.out.cell (World.block_lt_of_cell? w _ hw229_2)).trans hw229_2), ((HB.out.cell (World.block_lt_of_cell? w _ hw229_3)).trans hw229_3), ((HB.out.cell (World.block_lt_of_cell? w _ hw229_4)).trans hw229_4), ((HB.out.cell (World.block_lt_of_cell? w _ hw229_5)).trans hw229_5), ((HB.out.cell (World.block_lt_of_cell? w _ hw229_6)).trans hw229_6), ((HB.out.cell (World.block_lt_of_cell? w _ hw229_7)).trans hw229_7)⟩ (fun hHeld => ?_)
                                        clear hK K
                                        refine norm_ (a' := ?_) ?_ ?_
                                        rotate_left
                                        · show Act.put _ (some 50) _ = _
                                          simp only [Act.put, List.setIfInBounds_toArray, List.set_cons_zero, List.set_cons_succ, i64_w, i32_w]
                                          rfl
                                        refine pure_ (i := 4) (N := some 51) (v := ?_) (a' := ?_) #[true, true, true, true, true, false, true, true, true, true, true, false, false, false, false] rfl rfl (any_of HT_.out (by kernel_rfl)) (fun _ _ _ h => h) (Or.inl ⟨by rfl, ?_⟩) ?_ ?_
                                        rotate_left
                                        · intro w'
                                          go_simp
                                          with_reducible rfl
                                        rotate_left
                                        · simp only [Act.put, List.setIfInBounds_toArray, List.set_cons_zero, List.set_cons_succ, i64_w, i32_w]
                                          rfl
                                        refine pure_ (i := 5) (N := some 52) (v := ?_) (a' := ?_) #[true, true, true, true, true, true, true, true, true, true, true, false, false, false, false] rfl rfl (any_of HT_.out (by kernel_rfl)) (fun _ _ _ h => h) (Or.inl ⟨by rfl, ?_⟩) ?_ ?_
                                        rotate_left
                                        · intro w'
                                          go_simp
                                          with_reducible rfl
                                        rotate_left
                                        · simp only [Act.put, List.setIfInBounds_toArray, List.set_cons_zero, List.set_cons_succ, i64_w, i32_w]
                                          rfl
                                        refine one_ (i := 11) (N := some 58) #[true, true, true, true, true, true, true, true, true, true, true, true, false, false, false] rfl rfl (one_of HT_.out (by kernel_rfl)) (by decide) (fun K hK => ?_)
                                        refine goes_ Tryd.func33 (by kernel_rfl) rfl #[.agg #[.int .i64 ((rd_T48 ((rd_T46 l0_1 x5_1).f1) x7_2).f0), .int .i64 ((rd_T48 ((rd_T46 l0_1 x5_1).f1) x7_2).f1), .int .i64 ((rd_T48 ((rd_T46 l0_1 x5_1).f1) x7_2).f2), .int .i64 ((rd_T48 ((rd_T46 l0_1 x5_1).f1) x7_2).f3), .int .i64 ((rd_T48 ((rd_T46 l0_1 x5_1).f1) x7_2).f4), .string ((rd_T48 ((rd_T46 l0_1 x5_1).f1) x7_2).f5), .slice A229_6 ((rd_T48 ((rd_T46 l0_1 x5_1).f1) x7_2).f6).length c229_6, .bool ((rd_T48 ((rd_T46 l0_1 x5_1).f1) x7_2).f7)]] (by rfl) rfl rfl (by (try simp only [List.map_toArray, List.map_cons, List.map_nil]); first | done | rfl | (simp only [List.length_drop, List.length_take]; rfl)) ?_
                                        with_reducible refine (hallmarkref06_Op.calls k2 ((rd_T48 ((rd_T46 l0_1 x5_1).f1) x7_2).f0) ((rd_T48 ((rd_T46 l0_1 x5_1).f1) x7_2).f1) ((rd_T48 ((rd_T46 l0_1 x5_1).f1) x7_2).f2) ((rd_T48 ((rd_T46 l0_1 x5_1).f1) x7_2).f3) ((rd_T48 ((rd_T46 l0_1 x5_1).f1) x7_2).f4) ((rd_T48 ((rd_T46 l0_1 x5_1).f1) x7_2).f5) _ _ ((rd_T48 ((rd_T46 l0_1 x5_1).f1) x7_2).f6) ((rd_T48 ((rd_T46 l0_1 x5_1).f1) x7_2).f7) t230 _ ?side1 ?side2 A31.out).mono ?_
                                        (case side1 => repeat (first | exact (Kd.C_below HR229_6.out HB.out) | (with_reducible refine Kd.C_alloc ?_ _) | (with_reducible refine Kd.C_drewN ?_ _) | (with_reducible refine Kd.C_drew ?_)))
                                        (case side2 => exact HC229_6.out)
                                        rintro e w38 ⟨rfl, hb⟩
                                        refine ⟨_, rfl, ?_⟩
                                        have n0_ := Aside0.mk (blk_below (g := gb222) (o := .cells #[.int .i64 a0_0, .slice (some ad224) l0_1.length c0_1] 41 (0, 0)) (by (with_reducible repeat (first | refine blk_drewN ?_ _ | refine blk_drew ?_ | refine blk_alloc ?_ _)); exact BK222.out) hb)
                                        have n1_ := Aside0.mk (blk_below (g := gb225) (o := .cells #[.slice A224_0 ((rd_T46 l0_1 x5_1).f0).length c224_0, .slice (some ad229) ((rd_T46 l0_1 x5_1).f1).length c224_1, .int .i64 ((rd_T46 l0_1 x5_1).f2.f0), .int .i64 ((rd_T46 l0_1 x5_1).f2.f1), .int .i64 ((rd_T46 l0_1 x5_1).f2.f2), .int .i64 ((rd_T46 l0_1 x5_1).f2.f3), .slice A224_6 ((rd_T46 l0_1 x5_1).f2.f4).length c224_6, .slice A224_7 ((rd_T46 l0_1 x5_1).f2.f5).length c224_7] 46 (0, 0)) (by (with_reducible repeat (first | refine blk_drewN ?_ _ | refine blk_drew ?_ | refine blk_alloc ?_ _)); exact BK225.out) hb)
                                        have n2_ := Aside0.mk (below_step (by repeat (first | (with_reducible first | exact HB.out | apply below_alloc | apply pw_below_drewN | apply below_drew1 | refine below_set ?_ GE222.out | refine below_set ?_ GE225.out) | exact HB.out)) hb)
                                        clear BK222
                                        clear BK225
                                        clear HB
                                        have BK222 := n0_
                                        have BK225 := n1_
                                        have HB := n2_
                                        clear n0_ n1_ n2_
                                        (try clear hb)
                                        (try clear hb2)
                                        (try clear hk)
                                        (try clear hi)
                                        refine hK.out _ _ ⟨(blk_cell BK225.out 0).trans rfl, (blk_cell BK225.out 1).trans rfl, (blk_cell BK225.out 2).trans rfl, (blk_cell BK225.out 3).trans rfl, (blk_cell BK225.out 4).trans rfl, (blk_cell BK225.out 5).trans rfl, (blk_cell BK225.out 6).trans rfl, (blk_cell BK225.out 7).trans rfl, ((HB.out.cell (World.block_lt_of_cell? w _ hw229_0)).trans hw229_0), ((HB.out.cell (World.block_lt_of_cell? w _ hw229_1)).trans hw229_1), ((HB.out.cell (World.block_lt_of_cell? w _ hw229_2)).trans hw229_2), ((HB.out.cell (World.block_lt_of_cell? w _ hw229_3)).trans hw229_3), ((HB.out.cell (World.block_lt_of_cell? w _ hw229_4)).trans hw229_4), ((HB.out.cell (World.block_lt_of_cell? w _ hw229_5)).trans hw229_5), ((HB.out.cell (World.block_lt_of_cell? w _ hw229_6)).trans hw229_6), ((HB.out.cell (World.block_lt_of_cell? w _ hw229_7)).trans hw229_7)⟩ (fun hHeld => ?_)
                                        clear hK K
                                        refine norm_ (a' := ?_) ?_ ?_
                                        rotate_left
                                        · show Act.put _ (some 58) _ = _
                                          simp only [Act.put, List.setIfInBounds_toArray, List.set_cons_zero, List.set_cons_succ, i64_w, i32_w]
                                          rfl
                                        refine pure_ (i := 12) (N := some 59) (v := ?_) (a' := ?_) #[true, true, true, true, true, true, true, true, true, true, true, true, true, false, false] rfl rfl (any_of HT_.out (by kernel_rfl)) (fun _ _ _ h => h) (Or.inl ⟨by rfl, ?_⟩) ?_ ?_
                                        rotate_left
                                        · intro w'
                                          go_simp
                                          with_reducible rfl
                                        rotate_left
                                        · simp only [Act.put, List.setIfInBounds_toArray, List.set_cons_zero, List.set_cons_succ, i64_w, i32_w]
                                          rfl
                                        refine pure_ (i := 13) (N := some 60) (v := ?_) (a' := ?_) #[true, true, true, true, true, true, true, true, true, true, true, true, true, true, false] rfl rfl (any_of HT_.out (by kernel_rfl)) (fun _ _ _ h => h) (Or.inl ⟨by rfl, ?_⟩) ?_ ?_
                                        rotate_left
                                        · intro w'
                                          go_simp
                                          with_reducible rfl
                                        rotate_left
                                        · simp only [Act.put, List.setIfInBounds_toArray, List.set_cons_zero, List.set_cons_succ, i64_w, i32_w]
                                          rfl
                                        refine pure_ (i := 14) (N := some 3) (v := ?_) (a' := ?_) #[true, true, true, true, true, true, true, true, true, true, true, true, true, true, true] rfl rfl (any_of HT_.out (by kernel_rfl)) (fun _ _ _ h => h) (Or.inl ⟨by rfl, ?_⟩) ?_ ?_
                                        rotate_left
                                        · intro w'
                                          go_simp
                                          with_reducible rfl
                                        rotate_left
                                        · simp only [Act.put, List.setIfInBounds_toArray, List.set_cons_zero, List.set_cons_succ, i64_w, i32_w]
                                          rfl
                                        refine done_ (done_of HT_.out (by kernel_rfl)) ?_
                                        try go_wp2
                                        go_roundg k2
                                        case measure => have := HK1.out; have := HK2.out; omega
                                        case rel => exact ⟨(((((x3_2 ++ (⟨#[32, 32, 118]⟩ : ByteArray)) ++ t228) ++ (⟨#[32, 61, 32]⟩ : ByteArray)) ++ t230) ++ (⟨#[10]⟩ : ByteArray)), (wrap64 (x4_2 + 1)), (wrap64 (x7_2 + 1)), (by first | rfl | (simp; done) | (simp [*]; done)), (by first | rfl | (simp; done) | (simp [*]; done)), (by first | rfl | (simp; done) | (simp [*]; done)), H', ⟨by have := HK1.out; have := HK2.out; omega⟩, ⟨by (with_reducible repeat (first | refine blk_drewN ?_ _ | refine blk_drew ?_ | refine blk_alloc ?_ _)); exact BK222.out⟩, ⟨by (with_reducible repeat (first | refine blk_drewN ?_ _ | refine blk_drew ?_ | refine blk_alloc ?_ _)); exact BK225.out⟩, ⟨by repeat (first | (with_reducible first | exact HB.out | apply below_alloc | apply pw_below_drewN | apply below_drew1 | refine below_set ?_ GE222.out | refine below_set ?_ GE225.out) | exact HB.out)⟩⟩
                                      · rw [if_neg c33] at H
                                        exact absurd H (by simp)
                                    · rw [if_neg c32] at H
                                      exact absurd H (by simp)
                                  · rw [if_neg c30] at H
                                    exact absurd H (by simp)
                                · rw [if_neg c29] at H
                                  exact absurd H (by simp)
                              · rw [if_neg c28] at H
                                exact absurd H (by simp)
                            · rw [if_neg c26] at H
                              exact absurd H (by simp)
                          · rw [if_neg c25] at H
                            have c25b0 : decide (x7_2 < (((rd_T46 l0_1 x5_1).f1).length : Int)) = false := decide_eq_false c25
                            clear c25
                            by_cases c39 : x3_2.size + 2 ≤ 9223372036854775807
                            · rw [if_pos c39] at H
                              have c39b0 := eq_true c39
                              have c39b1 : decide (x3_2.size + 2 ≤ 9223372036854775807) = true := decide_eq_true c39
                              try have c39b2 : (9223372036854775807 < x3_2.size + 2) = False := eq_false (Nat.not_lt.2 c39)
                              replace H := Option.bind_eq_some_iff.mp H
                              obtain ⟨t231, A400, H⟩ := H
                              replace H : (if (x3_2 ++ (⟨#[32, 32]⟩ : ByteArray)).size + t231.size ≤ 9223372036854775807 then (if ((x3_2 ++ (⟨#[32, 32]⟩ : ByteArray)) ++ t231).size + 1 ≤ 9223372036854775807 then (hallmarkref06_Func.l0 k2 (((x3_2 ++ (⟨#[32, 32]⟩ : ByteArray)) ++ t231) ++ (⟨#[10]⟩ : ByteArray)) x4_2 (wrap64 (x5_1 + 1)) a0_0 l0_1) else (none)) else (none)) = some r := H
                              have A40 := Aside0.mk A400
                              clear A400
                              by_cases c41 : (x3_2 ++ (⟨#[32, 32]⟩ : ByteArray)).size + t231.size ≤ 9223372036854775807
                              · rw [if_pos c41] at H
                                have c41b0 := eq_true c41
                                have c41b1 : decide ((x3_2 ++ (⟨#[32, 32]⟩ : ByteArray)).size + t231.size ≤ 9223372036854775807) = true := decide_eq_true c41
                                try have c41b2 : (9223372036854775807 < (x3_2 ++ (⟨#[32, 32]⟩ : ByteArray)).size + t231.size) = False := eq_false (Nat.not_lt.2 c41)
                                have c41b3 := Nat.not_lt.2 c41
                                simp only [ByteArray.size_append', ByteArray.size_mk', List.size_toArray, List.length_cons, List.length_nil, Nat.zero_add, Nat.reduceAdd] at c41b3
                                replace c41b3 := eq_false c41b3
                                by_cases c42 : ((x3_2 ++ (⟨#[32, 32]⟩ : ByteArray)) ++ t231).size + 1 ≤ 9223372036854775807
                                · rw [if_pos c42] at H
                                  have c42b0 := eq_true c42
                                  have c42b1 : decide (((x3_2 ++ (⟨#[32, 32]⟩ : ByteArray)) ++ t231).size + 1 ≤ 9223372036854775807) = true := decide_eq_true c42
                                  try have c42b2 : (9223372036854775807 < ((x3_2 ++ (⟨#[32, 32]⟩ : ByteArray)) ++ t231).size + 1) = False := eq_false (Nat.not_lt.2 c42)
                                  have c42b3 := Nat.not_lt.2 c42
                                  simp only [ByteArray.size_append', ByteArray.size_mk', List.size_toArray, List.length_cons, List.length_nil, Nat.zero_add, Nat.reduceAdd] at c42b3
                                  replace c42b3 := eq_false c42b3
                                  have H' := Aside0.mk H
                                  clear H
                                  have hnb43 := NB225_222.out
                                  have hnc43 := NB222_225.out
                                  have hcz44_0 : wr.cell? ⟨gb225, 0, none⟩ = some (.slice A224_0 ((rd_T46 l0_1 x5_1).f0).length c224_0) := (blk_cell BK225.out 0).trans rfl
                                  have hcz44_1 : wr.cell? ⟨gb225, 1, none⟩ = some (.slice A224_1 ((rd_T46 l0_1 x5_1).f1).length c224_1) := (blk_cell BK225.out 1).trans rfl
                                  have hcz44_2 : wr.cell? ⟨gb225, 2, none⟩ = some (.int .i64 ((rd_T46 l0_1 x5_1).f2.f0)) := (blk_cell BK225.out 2).trans rfl
                                  have hcz44_3 : wr.cell? ⟨gb225, 3, none⟩ = some (.int .i64 ((rd_T46 l0_1 x5_1).f2.f1)) := (blk_cell BK225.out 3).trans rfl
                                  have hcz44_4 : wr.cell? ⟨gb225, 4, none⟩ = some (.int .i64 ((rd_T46 l0_1 x5_1).f2.f2)) := (blk_cell BK225.out 4).trans rfl
                                  have hcz44_5 : wr.cell? ⟨gb225, 5, none⟩ = some (.int .i64 ((rd_T46 l0_1 x5_1).f2.f3)) := (blk_cell BK225.out 5).trans rfl
                                  have hcz44_6 : wr.cell? ⟨gb225, 6, none⟩ = some (.slice A224_6 ((rd_T46 l0_1 x5_1).f2.f4).length c224_6) := (blk_cell BK225.out 6).trans rfl
                                  have hcz44_7 : wr.cell? ⟨gb225, 7, none⟩ = some (.slice A224_7 ((rd_T46 l0_1 x5_1).f2.f5).length c224_7) := (blk_cell BK225.out 7).trans rfl
                                  have hfz44_0 := blk_frozen BK225.out 0
                                  have hfz44_1 := blk_frozen BK225.out 1
                                  have hfz44_2 := blk_frozen BK225.out 2
                                  have hfz44_3 := blk_frozen BK225.out 3
                                  have hfz44_4 := blk_frozen BK225.out 4
                                  have hfz44_5 := blk_frozen BK225.out 5
                                  have hfz44_6 := blk_frozen BK225.out 6
                                  have hfz44_7 := blk_frozen BK225.out 7
                                  go_wp2_with (first | ((with_reducible refine gate_callee (f := 34) rfl ?_); refine goesL_ (some 67) rfl rfl Tryd.func34 (by kernel_rfl) rfl #[.agg #[.int .i64 ((rd_T46 l0_1 x5_1).f2.f0), .int .i64 ((rd_T46 l0_1 x5_1).f2.f1), .int .i64 ((rd_T46 l0_1 x5_1).f2.f2), .int .i64 ((rd_T46 l0_1 x5_1).f2.f3), .slice A224_6 ((rd_T46 l0_1 x5_1).f2.f4).length c224_6, .slice A224_7 ((rd_T46 l0_1 x5_1).f2.f5).length c224_7]] rfl (by (try simp only [List.map_toArray, List.map_cons, List.map_nil]); first | done | rfl | (simp only [List.length_drop, List.length_take]; rfl)) ?_; (with_reducible refine (hallmarkref06_end.calls k2 ((rd_T46 l0_1 x5_1).f2.f0) ((rd_T46 l0_1 x5_1).f2.f1) ((rd_T46 l0_1 x5_1).f2.f2) ((rd_T46 l0_1 x5_1).f2.f3) _ _ ((rd_T46 l0_1 x5_1).f2.f4) _ _ ((rd_T46 l0_1 x5_1).f2.f5) t231 _ ?side1 ?side2 ?side3 ?side4 A40.out).mono ?_); (case side1 => repeat (first | exact (Kd.C_below HR224_6.out HB.out) | (with_reducible refine Kd.C_alloc ?_ _) | (with_reducible refine Kd.C_drewN ?_ _) | (with_reducible refine Kd.C_drew ?_))); (case side2 => exact HC224_6.out); (case side3 => repeat (first | exact (Kd.C_below HR224_7.out HB.out) | (with_reducible refine Kd.C_alloc ?_ _) | (with_reducible refine Kd.C_drewN ?_ _) | (with_reducible refine Kd.C_drew ?_))); (case side4 => exact HC224_7.out); rintro e w45 ⟨rfl, hb⟩; refine ⟨_, rfl, ?_⟩; have n0_ := Aside0.mk (blk_below (g := gb222) (o := .cells #[.int .i64 a0_0, .slice (some ad224) l0_1.length c0_1] 41 (0, 0)) (by (with_reducible repeat (first | refine blk_drewN ?_ _ | refine blk_drew ?_ | refine blk_alloc ?_ _)); exact BK222.out) hb); have n1_ := Aside0.mk (blk_below (g := gb225) (o := .cells #[.slice A224_0 ((rd_T46 l0_1 x5_1).f0).length c224_0, .slice A224_1 ((rd_T46 l0_1 x5_1).f1).length c224_1, .int .i64 ((rd_T46 l0_1 x5_1).f2.f0), .int .i64 ((rd_T46 l0_1 x5_1).f2.f1), .int .i64 ((rd_T46 l0_1 x5_1).f2.f2), .int .i64 ((rd_T46 l0_1 x5_1).f2.f3), .slice A224_6 ((rd_T46 l0_1 x5_1).f2.f4).length c224_6, .slice A224_7 ((rd_T46 l0_1 x5_1).f2.f5).length c224_7] 46 (0, 0)) (by (with_reducible repeat (first | refine blk_drewN ?_ _ | refine blk_drew ?_ | refine blk_alloc ?_ _)); exact BK225.out) hb); have n2_ := Aside0.mk (below_step (by repeat (first | (with_reducible first | exact HB.out | apply below_alloc | apply pw_below_drewN | apply below_drew1 | refine below_set ?_ GE222.out | refine below_set ?_ GE225.out) | exact HB.out)) hb); clear BK222; clear BK225; clear HB; have BK222 := n0_; have BK225 := n1_; have HB := n2_; clear n0_ n1_ n2_; (try clear hb); (try clear hb2); (try clear hk); (try clear hi)))
                                  go_roundg k2
                                  case measure => have := HK1.out; have := HK2.out; omega
                                  case rel => exact ⟨(((x3_2 ++ (⟨#[32, 32]⟩ : ByteArray)) ++ t231) ++ (⟨#[10]⟩ : ByteArray)), (x4_2), (wrap64 (x5_1 + 1)), (by first | rfl | (simp; done) | (simp [*]; done)), (by first | rfl | (simp; done) | (simp [*]; done)), (by first | rfl | (simp; done) | (simp [*]; done)), H', ⟨by have := HK1.out; have := HK2.out; omega⟩, ⟨by (with_reducible repeat (first | refine blk_drewN ?_ _ | refine blk_drew ?_ | refine blk_alloc ?_ _)); exact BK222.out⟩, ⟨by repeat (first | (with_reducible first | exact HB.out | apply below_alloc | apply pw_below_drewN | apply below_drew1 | refine below_set ?_ GE222.out | refine below_set ?_ GE225.out) | exact HB.out)⟩⟩
                                · rw [if_neg c42] at H
                                  exact absurd H (by simp)
                              · rw [if_neg c41] at H
                                exact absurd H (by simp)
                            · rw [if_neg c39] at H
                              exact absurd H (by simp)
                    · rw [if_neg c15] at H
                      exact absurd H (by simp)
                  · rw [if_neg c14] at H
                    exact absurd H (by simp)
                · rw [if_neg c12] at H
                  exact absurd H (by simp)
              · rw [if_neg c11] at H
                exact absurd H (by simp)
            · rw [if_neg c9] at H
              exact absurd H (by simp)
          · rw [if_neg c8] at H
            have c8b0 : decide (x5_1 < (l0_1.length : Int)) = false := decide_eq_false c8
            clear c8
            obtain rfl := Option.some.inj H
            have hcz46_0 : wr.cell? ⟨gb222, 0, none⟩ = some (.int .i64 a0_0) := (blk_cell BK222.out 0).trans rfl
            have hcz46_1 : wr.cell? ⟨gb222, 1, none⟩ = some (.slice A0_1 l0_1.length c0_1) := (blk_cell BK222.out 1).trans rfl
            have hfz46_0 := blk_frozen BK222.out 0
            have hfz46_1 := blk_frozen BK222.out 1
            go_wp2
            go_ret
            exact ⟨by first | rfl | (simp [errW_none, errW_some] <;> rfl) | (simp [*, errW_none, errW_some] <;> rfl), by repeat (first | (with_reducible first | exact HB.out | apply below_alloc | apply pw_below_drewN | apply below_drew1 | refine below_set ?_ GE222.out) | exact HB.out)⟩
    · rw [if_neg c4] at H
      exact absurd H (by simp)
  · rw [if_neg c3] at H
    exact absurd H (by simp)

end Go.Proofs.YtacopdbldfgknaaDoor.PShellTexts
