import Derived.Test.YtcghkemfepnihaaRefSets
namespace Go.Proofs.Ytcghkemfepnihaa
open Go.RowKit

theorem Rows.same {w w' : World} {g : Nat} {vs : List Value} {xss : List (List Int)} (h : Rows w g vs xss) (hh : w'.heap = w.heap) : Rows w' g vs xss :=
  ⟨⟨by rw [hh]; exact h.arr.out⟩, h.len, fun i hi => by have := h.own i hi; unfold World.ownsRow at this ⊢; rwa [hh], h.apart⟩
def hasOut (outs : List (List Int)) (v : Nat) (s : Int) : List (List Int) := if (outs.getD v []).contains s then outs else outs.set v (insF (outs.getD v []) ((outs.getD v []).countP (· < s)) s)

set_option maxHeartbeats 4000000 in
set_option maxRecDepth 100000 in
theorem has_any (w : World) (ob g0 n : Nat) (vs : List Value) (outs : List (List Int)) (v : Nat) (s : Int) (hob : w.cell? ⟨ob, 0, none⟩ = some (.slice (some ⟨g0, 0, none⟩) n n)) (hty : ∀ cur fr, w.heap[ob]? ≠ some (.cells cur 3 fr)) (hog : ob ≠ g0)
    (hR : Rows w g0 vs outs) (hn : outs.length = n) (hv : v < n) (hn16 : n ≤ 16384) (hup : (outs.getD v []).Pairwise (· < ·)) (hlen : (outs.getD v []).length ≤ 100000000) :
    Calls Try.prog 27 #[I v, I s, .pointer (some ⟨ob, 0, none⟩)] w fun e w' => e = .returned (.bool ((outs.getD v []).contains s)) ∧ Below g0 w w' ∧
      (∀ k, g0 < k → k < w.heap.size → (∀ cur fr, w.heap[k]? ≠ some (.cells cur 3 fr)) → w'.heap[k]? = w.heap[k]?) ∧ ∃ vs', Rows w' g0 vs' (hasOut outs v s) := by
  have hvo : v < outs.length := by omega
  have hvv : v < vs.length := by rw [hR.len]; exact hvo
  obtain ⟨va, hva⟩ : ∃ va, vs.getD v nilS = va := ⟨_, rfl⟩
  obtain ⟨row, hrow⟩ : ∃ row, outs.getD v [] = row := ⟨_, rfl⟩
  have hown := hR.own v hvo
  have hHO : hasOut outs v s = if row.contains s then outs else outs.set v (insF row (row.countP (· < s)) s) := by rw [hasOut, hrow]
  rw [hva, hrow] at hown
  rw [hrow] at hup hlen ⊢
  rw [hHO]
  have c1 : w.cell? ⟨g0, v, none⟩ = some va := by rw [hR.arr.cell, ← hva, List.getD_eq_getElem?_getD, List.getElem?_eq_getElem hvv]; rfl
  obtain ⟨Aa, ca, rfl, hma⟩ := (Rd.of_own hown).form
  have hsch := search_any w _ row s (Rd.of_own hown) hup (by omega)
  have hcl := countP_le s row
  have hgl := hR.arr.lt
  have hobl := World.block_lt_of_cell? w _ hob
  have hvz : (v : Int) < n := by omega
  obtain ⟨cn, hcn⟩ : ∃ cn, row.countP (· < s) = cn := ⟨_, rfl⟩
  obtain ⟨b, hb⟩ : ∃ b, row.contains s = b := ⟨_, rfl⟩
  rw [hcn] at hcl
  rw [hcn, hb] at hsch
  rw [hb, hcn]
  have HSCH := Lib.hid hsch
  have HTY := Lib.hid hty
  have HROW := Lib.hid hrow
  have HVA := Lib.hid hva
  have HRW := Lib.hid hR
  have hnob : Hid (some ob ≠ (Value.slice Aa row.length ca).ownBlock) := Lib.hid (fun e => by
    rcases hown.2 with ⟨h, _⟩ | ⟨g, cp, cur, h, _, hh, _⟩
    · rw [h] at e; cases e
    · rw [h] at e; cases e; exact hty _ _ hh)
  have hng0 : Hid (some g0 ≠ (Value.slice Aa row.length ca).ownBlock) := Lib.hid (fun e => by have := (hown.lt g0 e.symm).1; omega)
  have HOWN := Lib.hid hown
  have HOG := Lib.hid hog
  clear hsch hty hrow hva hown hb hcn hR hup hog hHO
  go_enter Try.func27, Try.ntmps27
  go_wp2_with fail
  refine HSCH.out.mono ?_
  rintro e w1 ⟨rfl, q, hq⟩
  have hheap : w1.heap = w.heap := by rw [hq]; rfl
  have hBq : Below g0 w w1 := by rw [hq]; exact below_drewN (Below.refl _ _) q
  have d0 : w1.cell? ⟨ob, 0, none⟩ = some (.slice (some ⟨g0, 0, none⟩) n n) := by rw [hq]; exact hob
  have d1 : w1.cell? ⟨g0, v, none⟩ = some (.slice Aa row.length ca) := by rw [hq]; exact c1
  have R1 := Lib.hid (HRW.out.same hheap)
  have HS1 : Hid (w1.heap.size = w.heap.size) := Lib.hid (by rw [hheap])
  have HH := Lib.hid hheap
  clear hq hob c1 hheap
  cases b with
  | true =>
    go_wp2
    go_ret
    exact ⟨rfl, hBq, fun k _ _ _ => by rw [HH.out], vs, by simpa using R1.out⟩
  | false =>
    have d2 := R1.out.arr.frozen v
    have HOWN1 : Hid (w1.ownsRow (g0 + 1) 3 1 (.slice Aa row.length ca) row.length (ints row)) := Lib.hid (by have := HOWN.out; unfold World.ownsRow at this ⊢; rwa [HH.out])
    go_upto_region 3 with fail
    refine wp_region_z (fun w' => w'.cell? ⟨ob, 0, none⟩ = some (.slice (some ⟨g0, 0, none⟩) n n) ∧ w'.cell? ⟨g0, v, none⟩ = some (.slice Aa row.length ca)) 11 (by kernel_rfl) ?_
    have hS0 : w1.drew.cell? ⟨ob, 0, none⟩ = some (.slice (some ⟨g0, 0, none⟩) n n) ∧ w1.drew.cell? ⟨g0, v, none⟩ = some (.slice Aa row.length ca) := ⟨d0, d1⟩
    refine wpZ_take (i := 0) (v := ?_) rfl (by kernel_rfl) (fun _ _ _ h => h) (Or.inl ⟨rfl, ?_⟩) hS0 ?_
    rotate_left
    · rintro W ⟨s0, s1⟩
      go_simp
      try (with_reducible rfl)
    refine wpZ_take (i := 1) (v := ?_) rfl (by kernel_rfl) (fun _ _ _ h => h) (Or.inl ⟨rfl, ?_⟩) hS0 ?_
    rotate_left
    · rintro W ⟨s0, s1⟩
      go_simp
      try (with_reducible rfl)
    refine wpZ_take (i := 2) (v := ?_) rfl (by kernel_rfl) (fun _ _ _ h => h) (Or.inl ⟨rfl, ?_⟩) hS0 ?_
    rotate_left
    · rintro W ⟨s0, s1⟩
      go_simp
      try (with_reducible rfl)
    refine wpZ_take (i := 3) (v := ?_) rfl (by kernel_rfl) (fun _ _ _ h => h) (Or.inl ⟨rfl, ?_⟩) hS0 ?_
    rotate_left
    · rintro W ⟨s0, s1⟩
      go_simp
      try (with_reducible rfl)
    refine wpZ_take (i := 4) (v := ?_) rfl (by kernel_rfl) (fun _ _ _ h => h) (Or.inl ⟨rfl, ?_⟩) hS0 ?_
    rotate_left
    · rintro W ⟨s0, s1⟩
      go_simp
      try (with_reducible rfl)
    refine wpZ_take (i := 5) (v := ?_) rfl (by kernel_rfl) (fun _ _ _ h => h) (Or.inl ⟨rfl, ?_⟩) hS0 ?_
    rotate_left
    · rintro W ⟨s0, s1⟩
      go_simp
      try (with_reducible rfl)
    refine wpZ_take (i := 6) (v := ?_) rfl (by kernel_rfl) (fun _ _ _ h => h) (Or.inl ⟨rfl, ?_⟩) hS0 ?_
    rotate_left
    · rintro W ⟨s0, s1⟩
      go_simp
      try (with_reducible rfl)
    refine wpZ_take (i := 7) (v := ?_) rfl (by kernel_rfl) (fun _ _ _ h => h) (Or.inl ⟨rfl, ?_⟩) hS0 ?_
    rotate_left
    · rintro W ⟨s0, s1⟩
      go_simp
      try (with_reducible rfl)
    refine wpZ_one (i := 8) rfl (by kernel_rfl) (fun K hK => ?_)
    go_simp
    have hS1 : (w1.alloc (.cells #[I s] 3)).drew.cell? ⟨ob, 0, none⟩ = some (.slice (some ⟨g0, 0, none⟩) n n) ∧ (w1.alloc (.cells #[I s] 3)).drew.cell? ⟨g0, v, none⟩ = some (.slice Aa row.length ca) := ⟨cell_later _ d0, cell_later _ d1⟩
    refine hK _ _ (fun _ => hS1) ?_
    clear hK K hS0
    refine wpZ_one (i := 9) rfl (by kernel_rfl) (fun K hK => ?_)
    go_simp
    obtain ⟨W2, hW2⟩ : ∃ W2, (w1.alloc (.cells #[I s] 3)).drew = W2 := ⟨_, rfl⟩
    rw [hW2]
    rw [hW2] at hS1
    have HO2 : Hid (W2.ownsRow (g0 + 1) 3 1 (.slice Aa row.length ca) row.length (ints row)) := Lib.hid (by rw [← hW2]; exact (HOWN1.out.alloc _).drew)
    have HA2 : Hid (Arr W2 w1.heap.size 3 [I s]) := Lib.hid (by rw [← hW2]; simpa using (Arr.new w1 3 #[I s]).drew)
    have R2 : Hid (Rows W2 g0 vs outs) := Lib.hid (by rw [← hW2]; exact (R1.out.alloc _).drew)
    have hs2 : w1.heap.size < W2.heap.size := by rw [← hW2]; simp
    have HB2 : Hid (Below w1.heap.size w1 W2) := Lib.hid (by rw [← hW2]; exact (below_alloc _ _).drew)
    clear hW2
    have hgl1 := R1.out.arr.lt
    refine (insert_any W2 (g0 + 1) _ row cn s w1.heap.size HO2.out hcl HA2.out (fun e => by have := (HOWN1.out.lt _ e).2; omega) (by omega) (by omega)).mono ?_
    rintro e w5 ⟨g', cap', rfl, hap⟩
    go_wp2_with fail
    have hS2 : w5.cell? ⟨ob, 0, none⟩ = some (.slice (some ⟨g0, 0, none⟩) n n) ∧ w5.cell? ⟨g0, v, none⟩ = some (.slice Aa row.length ca) := ⟨hap.grew.cell hS1.1 hnob.out, hap.grew.cell hS1.2 hng0.out⟩
    refine hK _ _ (fun _ => hS2) ?_
    clear hK K hS1
    refine wpZ_take (i := 10) (v := ?_) rfl (by kernel_rfl) (fun _ _ _ h => h) (Or.inl ⟨rfl, ?_⟩) hS2 ?_
    rotate_left
    · rintro W ⟨s0, s1⟩
      go_simp
      try (with_reducible rfl)
    obtain ⟨d3, d4⟩ := hS2
    have d5 : w5.frozen? ⟨g0, v, none⟩ = false := (hap.grew.frozen_far ⟨g0, v, none⟩ (by show g0 < _; omega) hng0.out).trans (R2.out.arr.frozen v)
    refine wpZ_one (i := 11) rfl (by kernel_rfl) (fun K hK => ?_)
    go_simp
    refine hK _ _ (fun h => absurd rfl h) ?_
    clear hK K
    refine wpZ_done (by kernel_rfl) ?_ _
    go_wp2
    go_ret
    have hap' := hap
    rw [← HVA.out] at hap'
    have hput := R2.out.put hvo hap' (by rw [insF_length])
    have hb1 := HB2.out.size
    have hB2 : Below g0 w W2 := below_step (B := g0) hBq (HB2.out.mono (by have := HS1.out; omega)) (by have := HS1.out; omega)
    have hB5 : Below g0 w w5 := hap.below hB2 HO2.out (Nat.le_succ _) (by omega)
    refine ⟨rfl, hB5.setCell (Nat.le_refl _) _, fun k hk1 hk2 hk3 => ?_, _, hput⟩
    have e1 : w1.heap[k]? = w.heap[k]? := by rw [HH.out]
    have hk4 : k < w1.heap.size := by have := HS1.out; omega
    rw [Below.heap_setCell _ _ _ _ (by show k ≠ g0; omega), hap.grew.block k (by omega) (fun e => ?_), HB2.out.block k hk4, e1]
    rcases HOWN1.out.2 with ⟨h, _⟩ | ⟨g, cp, cur, h, _, hh, _⟩
    · rw [h] at e; cases e
    · rw [h] at e
      cases e
      rw [e1] at hh
      exact hk3 _ _ _ hh
end Go.Proofs.Ytcghkemfepnihaa
