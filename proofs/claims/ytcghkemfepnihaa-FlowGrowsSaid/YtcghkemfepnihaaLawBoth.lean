import Derived.Test.YtcghkemfepnihaaRefReach
import Derived.Test.YtcghkemfepnihaaOpen
namespace Go.Proofs.Ytcghkemfepnihaa
open Go.RowKit

theorem nodes_rng {l : List (Int × Int)} (hu : ∀ p ∈ l, (0 ≤ p.1 ∧ p.1 ≤ 255) ∧ (0 ≤ p.2 ∧ p.2 ≤ 255)) : ∀ p ∈ nodesF l 20, (0 ≤ p.1 ∧ p.1 < 20) ∧ (0 ≤ p.2 ∧ p.2 < 20) := by
  intro p hp
  obtain ⟨q, hq, rfl⟩ := List.mem_map.1 hp
  have := hu q (List.mem_of_mem_take hq)
  simp
  omega
theorem fit_in_range {m : Nat} {E : List (Int × Int)} {S : List Int} (hm : m ≤ 16384) (hE : ∀ p ∈ E, (0 ≤ p.1 ∧ p.1 < m) ∧ (0 ≤ p.2 ∧ p.2 < m)) (hS : ∀ v ∈ S, 0 ≤ v ∧ v < m) : fitF m E S = 0 := by
  have h1 : badE m E = false := by
    rw [badE, List.any_eq_false]
    intro p hp
    have := hE p hp
    simp [offB]; omega
  have h2 : badL m S = false := by
    rw [badL, List.any_eq_false]
    intro p hp
    have := hS p hp
    simp [offB]; omega
  rw [fitF, if_neg (by omega), h1, h2, if_neg (by simp), if_neg (by simp), if_neg (by omega)]
theorem rch_trans {E : List (Int × Int)} {a b c : Int} (h : Rch E [a] b) (k : Rch E [b] c) : Rch E [a] c := by
  obtain ⟨k, hk⟩ := k
  induction k generalizing c with
  | zero => simp [Rn] at hk; subst hk; exact h
  | succ k ih =>
    obtain ⟨u, hu, hr⟩ := hk
    obtain ⟨j, hj⟩ := ih hr
    exact ⟨j + 1, u, hu, hj⟩
theorem rch_turn {E : List (Int × Int)} {a b : Int} (h : Rch E [a] b) : Rch (turnF E) [b] a := by
  obtain ⟨k, hk⟩ := h
  induction k generalizing b with
  | zero => simp [Rn] at hk; subst hk; exact ⟨0, by simp [Rn]⟩
  | succ k ih =>
    obtain ⟨u, hu, hr⟩ := hk
    refine rch_trans ⟨1, b, ?_, by simp [Rn]⟩ (ih hr)
    exact List.mem_map.2 ⟨_, hu, rfl⟩
theorem turn_turn (E : List (Int × Int)) : turnF (turnF E) = E := by
  rw [turnF, turnF, List.map_map]
  exact List.map_id E
theorem both_same {E : List (Int × Int)} {x y : Nat} {p q : List Bool} (hx : x < 20) (hy : y < 20) (hp : RchOut (E.map (turnB false)) [(x : Int)] 20 p) (hq : RchOut (E.map (turnB true)) [(y : Int)] 20 q) : p.getD y false = q.getD x false := by
  have e1 := hp.at_ y hy
  have e2 := hq.at_ x hx
  rw [map_turn_false] at e1
  have e3 : E.map (turnB true) = turnF E := rfl
  rw [e3] at e2
  rw [Bool.eq_iff_iff, e1, e2]
  exact ⟨rch_turn, fun h => by have := rch_turn h; rwa [turn_turn] at this⟩

set_option maxHeartbeats 4000000 in
set_option maxRecDepth 100000 in
theorem flowBoth_walk (w : World) (v1 : Value) (l : List (Int × Int)) (h1 : Rd w v1 l.length (pairs8 l)) (hu : ∀ p ∈ l, (0 ≤ p.1 ∧ p.1 ≤ 255) ∧ (0 ≤ p.2 ∧ p.2 ≤ 255)) (a : Int) (ha : 0 ≤ a ∧ a ≤ 255) (b : Int) (hb : 0 ≤ b ∧ b ≤ 255) :
    Calls Try.prog 5 #[v1, .int .u8 a, .int .u8 b] w fun e w' => e = .returned (.bool true) ∧ Below w.heap.size w w' := by
  have H1 := Lib.hid h1
  have hr := nodes_rng hu
  have hl := nodesF_length l 20
  have HU := Lib.hid hu
  clear h1 hu
  go_enter Try.func5, Try.ntmps5
  go_wp2_with fail
  refine (nodes_any _ _ l H1.out HU.out).mono ?_
  rintro e w1 ⟨r1, rfl, hr1, B1⟩
  generalize nodesF l 20 = E at hr hl hr1
  have HE1 := Lib.hid (Rd.of_own hr1)
  have HR := Lib.hid hr
  clear hr1 hr
  obtain ⟨x, hx⟩ : ∃ x : Nat, a % 20 = x := ⟨(a % 20).toNat, by omega⟩
  obtain ⟨y, hy⟩ : ∃ y : Nat, b % 20 = y := ⟨(b % 20).toNat, by omega⟩
  have hx20 : x < 20 := by omega
  have hy20 : y < 20 := by omega
  have F1 : Hid (fitF 20 E [(x : Int)] = 0) := Lib.hid (fit_in_range (m := 20) (by omega) HR.out (by simp; omega))
  have F2 : Hid (fitF 20 E [(y : Int)] = 0) := Lib.hid (fit_in_range (m := 20) (by omega) HR.out (by simp; omega))
  go_wp2_with fail
  refine (own_any _ _ E HE1.out (by omega)).mono ?_
  rintro e w2 ⟨r2, rfl, hr2, B2⟩
  have D2 : Below w.heap.size w w2 := below_step B1 B2 B1.size
  have HE2 := Lib.hid (HE1.out.below B2)
  have HR2 := Lib.hid ((Rd.of_own hr2).alloc (.cells #[I x] 3))
  have HX2 : Hid (Rd (w2.alloc (.cells #[I x] 3)) (.slice (some ⟨w2.heap.size, 0, none⟩) 1 1) [(x : Int)].length (ints [(x : Int)])) := Lib.hid (by simpa [ints] using Rd.fresh w2 #[I x] 3 1 1 (by omega) (by omega))
  clear hr2 HE1 B1
  go_wp2_with fail
  refine (reach_any _ 20 _ _ E [(x : Int)] HR2.out HX2.out (by simp; omega) (by omega)).mono ?_
  rintro e w3 ⟨rp, p, rfl, hp, B3, _, hp1⟩
  rw [F1.out]
  have D3 : Below w.heap.size w w3 := below_step (below_step D2 (below_alloc _ _) D2.size) B3 (by have := D2.size; simp; omega)
  have HE3 := Lib.hid ((HE2.out.alloc (.cells #[I x] 3)).below B3)
  have HP1 := Lib.hid (hp1 20 rfl F1.out)
  have HP : Hid (Rd w3 rp 20 (bools p)) := Lib.hid (by rw [HP1.out.len] at hp; exact hp)
  clear hp hp1 HR2 HX2 HE2 D2 B2 B3
  obtain ⟨Ap, cp, rfl, _⟩ := HP.out.form
  go_wp2_with fail
  refine (own_any _ _ E HE3.out (by omega)).mono ?_
  rintro e w4 ⟨r4, rfl, hr4, B4⟩
  have D4 : Below w.heap.size w w4 := below_step D3 B4 D3.size
  have HP4 := Lib.hid ((HP.out.below B4).alloc (.cells #[I y] 3))
  have HR4 := Lib.hid ((Rd.of_own hr4).alloc (.cells #[I y] 3))
  have HY4 : Hid (Rd (w4.alloc (.cells #[I y] 3)) (.slice (some ⟨w4.heap.size, 0, none⟩) 1 1) [(y : Int)].length (ints [(y : Int)])) := Lib.hid (by simpa [ints] using Rd.fresh w4 #[I y] 3 1 1 (by omega) (by omega))
  clear hr4 HE3 D3 HP
  go_wp2_with fail
  refine (back_any _ 20 _ _ E [(y : Int)] HR4.out HY4.out (by simp; omega) (by omega)).mono ?_
  rintro e w5 ⟨rq, q, rfl, hq, B5, _, hq1⟩
  rw [F2.out]
  have D5 : Below w.heap.size w w5 := below_step (below_step D4 (below_alloc _ _) D4.size) B5 (by have := D4.size; simp; omega)
  have HQ1 := Lib.hid (hq1 20 rfl F2.out)
  have hQ : Rd w5 rq 20 (bools q) := by rw [HQ1.out.len] at hq; exact hq
  have HP5 := Lib.hid (HP4.out.below B5)
  obtain ⟨Aq, cq, rfl, _⟩ := hQ.form
  have HQ := Lib.hid hQ
  clear hq hq1 hQ HR4 HY4 HP4 D4 B4 B5
  obtain ⟨bp, op, _, e1, _, hbp, gp⟩ := HP5.out.elem (by rw [bools_length, HP1.out.len]; omega)
  obtain ⟨bq, oq, _, e2, _, hbq, gq⟩ := HQ.out.elem (by rw [bools_length, HQ1.out.len]; omega)
  cases e1
  cases e2
  obtain ⟨t, ht⟩ : ∃ t, p.getD y false = t := ⟨_, rfl⟩
  have ht2 : q.getD x false = t := by rw [← ht]; exact (both_same hx20 hy20 HP1.out HQ1.out).symm
  have hyp : y < p.length := by rw [HP1.out.len]; exact hy20
  have hxq : x < q.length := by rw [HQ1.out.len]; exact hx20
  have f1 : w5.cell? ⟨bp, op + y, none⟩ = some (.bool t) := by rw [← ht, List.getD_eq_getElem?_getD, List.getElem?_eq_getElem hyp]; exact gp y _ (bools_at p y hyp)
  have f2 : w5.cell? ⟨bq, oq + x, none⟩ = some (.bool t) := by rw [← ht2, List.getD_eq_getElem?_getD, List.getElem?_eq_getElem hxq]; exact gq x _ (bools_at q x hxq)
  clear ht ht2 gp gq
  have hx20' : (x : Int) < 20 := by omega
  have hy20' : (y : Int) < 20 := by omega
  clear hx hy
  go_wp2_with fail
  go_still_tail 28, (by kernel_rfl)
  go_wp2_with fail
  refine (lives_any _).mono ?_
  rintro e w6 ⟨rfl, B6⟩
  go_wp2
  go_ret
  exact ⟨rfl, below_step (B := w.heap.size) (b := w5.drew) D5.drew B6 D5.size⟩
end Go.Proofs.Ytcghkemfepnihaa
