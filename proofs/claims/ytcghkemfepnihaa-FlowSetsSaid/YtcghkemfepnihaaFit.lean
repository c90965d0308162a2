import Derived.Test.YtcghkemfepnihaaIter
namespace Go.Proofs.Ytcghkemfepnihaa
open Go.RowKit Go.Shelf
attribute [local go_sem] Oper.semAt_some
theorem cell_new_l (w : World) (v : Value) (t : Nat) : (w.alloc (.cells #[v] t)).cell? ⟨w.heap.size, 0, none⟩ = some v ∧ (w.alloc (.cells #[v] t)).frozen? ⟨w.heap.size, 0, none⟩ = false :=
  ⟨by rw [World.cell?_alloc_at _ _ _ _ rfl]; rfl, World.frozen?_alloc_at _ _ _ _ rfl⟩
theorem cell_alloc_l {w : World} {a : Addr} {v : Value} (o : Obj) (h : w.cell? a = some v) : (w.alloc o).cell? a = some v :=
  ((below_alloc w o).cell (World.block_lt_of_cell? _ _ h)).trans h
theorem badL_flat (n : Int) (E : List (Int × Int)) (L : List Int) : badL n (flatN E ++ L) = (badE n E || badL n L) := by
  rw [badL, badL, badE, List.any_append]
  congr 1
  induction E with
  | nil => rfl
  | cons x l ih =>
    simp only [flatN, List.flatMap_cons, List.any_append, List.any_cons, List.any_nil, Bool.or_false] at *
    rw [ih]
theorem badL_one (n : Int) (pre : List Int) (x : Int) : badL n (pre ++ [x]) = (badL n pre || offB n x) := by simp [badL, List.any_append]
theorem badL_prefix {n : Int} {pre L : List Int} (h : pre <+: L) (hb : badL n pre = true) : badL n L = true := by
  obtain ⟨t, rfl⟩ := h
  rw [badL, List.any_append]; rw [badL] at hb; rw [hb]; rfl

set_option maxRecDepth 100000 in
set_option maxHeartbeats 4000000 in
/-- fit over named's iterator. -/
theorem fit_in (F : Fence) (m : Nat) (h22 : F.fn 22) (h32 : F.fn 32) (hro : F.round = none) (hm : 3 ≤ m) (n : Int) (b1 b2 : Nat) (v1 v2 : Value) (E : List (Int × Int)) (L : List Int) (w : World)
    (hc1 : w.cell? ⟨b1, 0, none⟩ = some v1) (hc2 : w.cell? ⟨b2, 0, none⟩ = some v2) (h1 : Rd w v1 E.length (pairs E)) (h2 : Rd w v2 L.length (ints L)) :
    CallsIn F m Try.prog 22 #[I n, .func (.func 32) #[] #[.pointer (some ⟨b1, 0, none⟩), .pointer (some ⟨b2, 0, none⟩)]] w fun e W' => e = .returned (I (fitF n E L)) ∧ Below w.heap.size w W' := by
  have hm1 : 1 ≤ m := by omega
  refine callsIn_of_wp_marks Try.func22 rfl h22 ?_ hro
  simp only [Try.ntmps22, List.size_toArray, List.length_cons, List.length_nil, Nat.reduceAdd, Nat.reduceSub, Array.replicate_succ, Array.replicate_zero, List.push_toArray, List.append_toArray, List.nil_append, List.cons_append]
  by_cases hn : n < 0
  · have e : Hid (fitF n E L = 1) := Lib.hid (by simp [fitF, hn])
    gi_wp2
    refine ⟨I 1, ?_, by rw [e.out], ((Below.refl _ w).alloc (Nat.le_refl _) _).alloc (by simp) _⟩
    simp [results, Try.f22, go_sem]
  · have c0 := cell_new_l w (I n) 3
    have c1 := cell_new_l (w.alloc (.cells #[I n] 3)) (.int .i64 0) 28
    simp only [World.size_alloc] at c1
    have hB0 : Below w.heap.size w ((w.alloc (.cells #[I n] 3)).alloc (.cells #[.int .i64 0] 28)) := (((Below.refl _ w).alloc (Nat.le_refl _) _).alloc (by simp) _)
    gi_wp2
    refine wpIn_rangeFunc_ownF hro hm1 (gf := 32) (lb := #[.pointer (some ⟨b1, 0, none⟩), .pointer (some ⟨b2, 0, none⟩)]) rfl h32 (enters_of Try.func32 (by kernel_rfl) rfl)
      (named_stops F (m - 1) h32 hro (by omega) b1 b2 v1 v2 E L _ ((hB0.cell (p := ⟨b1, 0, none⟩) (World.block_lt_of_cell? _ _ hc1)).trans hc1) ((hB0.cell (p := ⟨b2, 0, none⟩) (World.block_lt_of_cell? _ _ hc2)).trans hc2) (h1.below hB0) (h2.below hB0)) KeepsC.trans (KeepsC.putObj) (Below.refl _ _) (fun _ => rfl)
      (fun pre W => (badL n pre = false ∧ W.cell? ⟨w.heap.size, 0, none⟩ = some (I n) ∧ W.cell? ⟨w.heap.size + 1, 0, none⟩ = some (.int .i64 0) ∧ W.frozen? ⟨w.heap.size + 1, 0, none⟩ = false) ∧ Below w.heap.size w W)
      (fun c pre W => (c = .ret ∧ badL n pre = true ∧ W.cell? ⟨w.heap.size + 1, 0, none⟩ = some (.int .i64 1)) ∧ Below w.heap.size w W)
      (OwnFrom.and (Own.from (fun s A B row hs hg hr => ⟨hs.1, cell_kept hs.2.1 hg hr, cell_kept hs.2.2.1 hg hr, (frozen_kept hs.2.2.1 hg hr).trans hs.2.2.2⟩) _) (ownFrom_below (Nat.le_refl _) (by simp; omega)))
      (fun c => OwnFrom.and (Own.from (fun s A B row hs hg hr => ⟨hs.1, hs.2.1, cell_kept hs.2.2 hg hr⟩) _) (ownFrom_below (Nat.le_refl _) (by simp; omega)))
      ⟨⟨by simp [badL], cell_alloc_l _ c0.1, c1.1, c1.2⟩, hB0⟩
      (fun x => { tmps := #[I n, .func (.func 32) #[] #[.pointer (some ⟨b1, 0, none⟩), .pointer (some ⟨b2, 0, none⟩)], .pointer (some ⟨w.heap.size, 0, none⟩), undef, .pointer (some ⟨w.heap.size + 1, 0, none⟩), I x, I n, .bool false, .func (.func 32) #[] #[.pointer (some ⟨b1, 0, none⟩), .pointer (some ⟨b2, 0, none⟩)], I x, undef, undef, undef, undef, undef, undef, undef, undef, undef], defers := [] }) ?assign ?body ?done ?stop
    case assign =>
      intro l x W K hK
      gi_wp2
      exact hK
    case body =>
      rintro l pre x W ⟨⟨hp, hcw, hcr, hfr⟩, hB⟩ _
      have HP := Lib.hid hp
      clear hp
      by_cases hx0 : x < 0
      · have hd : decide (x < 0) = true := de_t hx0
        have hb : Hid (badL n (pre ++ [x]) = true) := Lib.hid (by rw [badL_one]; simp [offB, hx0])
        gi_wp2
        exact ⟨KeepsOthers.setCell _ _ _, ⟨rfl, hb.out, World.cell?_setCell_same' _ _ _ (by rw [hcr]; rfl)⟩, hB.setCell (p := ⟨w.heap.size + 1, 0, none⟩) (by simp) _⟩
      · have hd : decide (x < 0) = false := de_f hx0
        by_cases hxn : n ≤ x
        · have hd2 : decide (n ≤ x) = true := de_t hxn
          have hb : Hid (badL n (pre ++ [x]) = true) := Lib.hid (by rw [badL_one]; simp [offB, hxn])
          gi_wp2
          exact ⟨KeepsOthers.setCell _ _ _, ⟨rfl, hb.out, World.cell?_setCell_same' _ _ _ (by rw [hcr]; rfl)⟩, hB.setCell (p := ⟨w.heap.size + 1, 0, none⟩) (by simp) _⟩
        · have hd2 : decide (n ≤ x) = false := de_f hxn
          have hb : Hid (badL n (pre ++ [x]) = false) := Lib.hid (by rw [badL_one, HP.out]; simp [offB, hd, hd2])
          gi_wp2
          exact ⟨KeepsOthers.refl _, KeepsC.refl _, ⟨hb.out, hcw, hcr, hfr⟩, hB⟩
    case done =>
      rintro D ys W hD rfl ⟨⟨hne, hcw, hcr, hfr⟩, hB⟩ hK
      rw [badL_flat, Bool.or_eq_false_iff] at hne
      have HN := Lib.hid hne
      clear hne
      by_cases hg : (16384 : Int) < n
      · have e : Hid (fitF n E L = 2) := Lib.hid (by simp [fitF, hn, HN.out.1, HN.out.2, hg])
        gi_wp2
        have hK' := (KeepsOthers.setCell W ⟨w.heap.size + 1, 0, none⟩ (.int .i64 2)).same D _ hK rfl
        refine ⟨by simp, .inl ⟨_, _, rfl, run_takeDeferred hK', ?_⟩⟩
        have hc5 := cell_kept (World.cell?_setCell_same' W ⟨w.heap.size + 1, 0, none⟩ (.int .i64 2) (by rw [hcr]; rfl)) (grownBy_putObj' _ D (.deferred none)) (fun r e => by cases e; exact ⟨_, hK', rfl⟩)
        refine ⟨I 2, ?_, by rw [e.out], (hB.setCell (p := ⟨w.heap.size + 1, 0, none⟩) (by simp) _).trans (belowK_b (w := w) (Nat.le_refl _) _ D _ _ (by simp at hD; omega) hK' rfl rfl)⟩
        simp [results, Try.f22, go_sem, hc5]
      · have e : Hid (fitF n E L = 0) := Lib.hid (by simp [fitF, hn, HN.out.1, HN.out.2, hg])
        gi_wp2
        have hK' := (KeepsOthers.setCell W ⟨w.heap.size + 1, 0, none⟩ (.int .i64 0)).same D _ hK rfl
        refine ⟨by simp, .inl ⟨_, _, rfl, run_takeDeferred hK', ?_⟩⟩
        have hc5 := cell_kept (World.cell?_setCell_same' W ⟨w.heap.size + 1, 0, none⟩ (.int .i64 0) (by rw [hcr]; rfl)) (grownBy_putObj' _ D (.deferred none)) (fun r e => by cases e; exact ⟨_, hK', rfl⟩)
        refine ⟨I 0, ?_, by rw [e.out], (hB.setCell (p := ⟨w.heap.size + 1, 0, none⟩) (by simp) _).trans (belowK_b (w := w) (Nat.le_refl _) _ D _ _ (by simp at hD; omega) hK' rfl rfl)⟩
        simp [results, Try.f22, go_sem, hc5]
    case stop =>
      rintro D c pre W hD hpre ⟨⟨rfl, hin, hcr⟩, hB⟩ hK
      have e : Hid (fitF n E L = 1) := Lib.hid (by
        have hb := badL_prefix hpre hin
        rw [badL_flat] at hb
        simp only [fitF, if_neg (show ¬ n < 0 by omega)]
        cases h : badE n E
        · rw [h, Bool.false_or] at hb; simp [hb]
        · simp)
      gi_wp2
      refine ⟨by simp, .inl ⟨_, _, rfl, run_takeDeferred hK, ?_⟩⟩
      have hc5 := cell_kept hcr (grownBy_putObj' _ D (.deferred none)) (fun r e => by cases e; exact ⟨_, hK, rfl⟩)
      refine ⟨I 1, ?_, by rw [e.out], hB.trans (belowK_b (w := w) (Nat.le_refl _) W D _ _ (by simp at hD; omega) hK rfl rfl)⟩
      simp [results, Try.f22, go_sem, hc5]

theorem fit22_any (n : Int) (b1 b2 : Nat) (v1 v2 : Value) (E : List (Int × Int)) (L : List Int) (w : World)
    (hc1 : w.cell? ⟨b1, 0, none⟩ = some v1) (hc2 : w.cell? ⟨b2, 0, none⟩ = some v2) (h1 : Rd w v1 E.length (pairs E)) (h2 : Rd w v2 L.length (ints L)) :
    Calls Try.prog 22 #[I n, .func (.func 32) #[] #[.pointer (some ⟨b1, 0, none⟩), .pointer (some ⟨b2, 0, none⟩)]] w fun e W' => e = .returned (I (fitF n E L)) ∧ Below w.heap.size w W' :=
  (callsIn_wide (n := 3)).1 (fit_in Fence.wide 3 trivial trivial rfl (Nat.le_refl _) n b1 b2 v1 v2 E L w hc1 hc2 h1 h2)
end Go.Proofs.Ytcghkemfepnihaa
