import Derived.Test.YtcghkemfepnihaaDistW
import Derived.WalkSpells
import Derived.Test.YtcghkemfepnihaaOrd
namespace Go.Proofs.Ytcghkemfepnihaa
open Go.RowKit

/-! ### slices.Clone -/
set_option maxHeartbeats 400000 in
theorem clone_ints (w : World) (v : Value) (l : List Int) (h : Rd w v l.length (ints l)) (hb : l.length * 8 ≤ 140737488355328) :
    Calls Try.prog 33 #[v] w fun e w' => ∃ r, e = .returned r ∧ w'.ownsRow w.heap.size 3 1 r l.length (ints l) ∧ Below w.heap.size w w' := by
  obtain ⟨A, cap, rfl, hm⟩ := h.form
  have H0 := Lib.hid (own_start w 3 1)
  have H1 := Lib.hid (h.alloc (.cells #[] 3))
  cases A with
  | none =>
    have hl : l = [] := by
      obtain ⟨A', cap', e, _, hc⟩ := h.out
      cases e
      rcases Nat.eq_zero_or_pos l.length with h0 | h0
      · exact List.eq_nil_of_length_eq_zero h0
      · obtain ⟨b, off, e, _⟩ := hc (by simpa using h0); cases e
    subst hl
    have hnl := fun w => Lib.run_eql_slice_nil (P := Try.prog) w 26 3 none 0 cap 0 0 Try.underlying26
    go_enter Try.func33, Try.ntmps33
    go_wp2
    go_ret
    exact ⟨_, rfl, World.ownsRow_nil _ _ _ _, Below.refl _ _⟩
  | some ad =>
    have hnl := fun w => Lib.run_eql_slice_nil (P := Try.prog) w 26 3 (some ad) l.length cap 0 0 Try.underlying26
    go_enter Try.func33, Try.ntmps33
    go_wp2_with (at_builtin; refine wpl_append rfl _ _ _ rfl E26 rfl H0.out rfl H1.out (by simp) (ints_one _) (by omega) (by simp [maxLen]; omega) (by simp) ?_; intro v' w' hap)
    go_ret
    exact ⟨_, rfl, by simpa using hap.own, hap.below (below_alloc _ _) H0.out (Nat.le_refl _) (by simp)⟩

set_option maxHeartbeats 400000 in
theorem clone_pairs (w : World) (v : Value) (l : List (Int × Int)) (h : Rd w v l.length (pairs l)) (hb : l.length * 16 ≤ 140737488355328) :
    Calls Try.prog 30 #[v] w fun e w' => ∃ r, e = .returned r ∧ w'.ownsRow w.heap.size 47 2 r l.length (pairs l) ∧ Below w.heap.size w w' := by
  obtain ⟨A, cap, rfl, hm⟩ := h.form
  have H0 := Lib.hid (own_start w 47 2)
  have H1 := Lib.hid (h.alloc (.cells #[] 47))
  cases A with
  | none =>
    have hl : l = [] := by
      obtain ⟨A', cap', e, _, hc⟩ := h.out
      cases e
      rcases Nat.eq_zero_or_pos l.length with h0 | h0
      · exact List.eq_nil_of_length_eq_zero h0
      · obtain ⟨b, off, e, _⟩ := hc (by simp; omega); cases e
    subst hl
    have hnl := fun w => Lib.run_eql_slice_nil (P := Try.prog) w 24 47 none 0 cap 0 0 Try.underlying24
    go_enter Try.func30, Try.ntmps30
    go_wp2
    go_ret
    exact ⟨_, rfl, World.ownsRow_nil _ _ _ _, Below.refl _ _⟩
  | some ad =>
    have hnl := fun w => Lib.run_eql_slice_nil (P := Try.prog) w 24 47 (some ad) l.length cap 0 0 Try.underlying24
    go_enter Try.func30, Try.ntmps30
    go_wp2_with (at_builtin; refine wpl_append rfl _ _ _ rfl E24 rfl H0.out rfl H1.out (pairs_length _) (pairs_one _) (by omega) (by simp [maxLen]; omega) (by simp) ?_; intro v' w' hap)
    go_ret
    exact ⟨_, rfl, by simpa using hap.own, hap.below (below_alloc _ _) H0.out (Nat.le_refl _) (by simp)⟩

/-! ### rows of rows of the call's own -/
abbrev nilS : Value := .slice none 0 0
structure Rows (w : World) (g : Nat) (vs : List Value) (xss : List (List Int)) : Prop where
  arr : Arr w g 26 vs
  len : vs.length = xss.length
  own : ∀ i, i < xss.length → w.ownsRow (g + 1) 3 1 (vs.getD i nilS) (xss.getD i []).length (ints (xss.getD i []))
  apart : ∀ i j, i < xss.length → j < xss.length → i ≠ j → (vs.getD i nilS).ownBlock = none ∨ (vs.getD i nilS).ownBlock ≠ (vs.getD j nilS).ownBlock
theorem getD_set' {α : Type} (d : List α) (i j : Nat) (x z : α) (h : i < d.length) : (d.set i x).getD j z = if j = i then x else d.getD j z := by
  simp only [List.getD_eq_getElem?_getD, List.getElem?_set]
  by_cases e : i = j
  · subst e; simp [h]
  · simp [e, Ne.symm e]
theorem getD_replicate {α : Type} (n i : Nat) (x : α) : (List.replicate n x).getD i x = x := by
  simp only [List.getD_eq_getElem?_getD, List.getElem?_replicate]; split <;> rfl
theorem Rows.start (w : World) (n : Nat) : Rows (w.alloc (.cells (madeCells #[nilS] n) 26)) w.heap.size (List.replicate n nilS) (List.replicate n []) := by
  refine ⟨Arr.made w 26 n nilS, by simp, fun i hi => ?_, fun i j hi hj hij => ?_⟩
  · rw [getD_replicate, getD_replicate]; exact World.ownsRow_nil _ _ _ _
  · rw [getD_replicate]; exact .inl rfl
theorem Rows.alloc {w : World} {g : Nat} {vs : List Value} {xss : List (List Int)} (h : Rows w g vs xss) (o : Obj) : Rows (w.alloc o) g vs xss :=
  ⟨h.arr.alloc o, h.len, fun i hi => (h.own i hi).alloc o, h.apart⟩
theorem Rows.drew {w : World} {g : Nat} {vs : List Value} {xss : List (List Int)} (h : Rows w g vs xss) : Rows w.drew g vs xss :=
  ⟨h.arr.drew, h.len, fun i hi => (h.own i hi).drew, h.apart⟩
/-- One row is appended to, and laid back. -/
theorem Rows.put {w w' : World} {g i n : Nat} {vs : List Value} {xss : List (List Int)} {v' : Value} {xs : List Int} (h : Rows w g vs xss) (hi : i < xss.length)
    (hap : Ap (g + 1) 3 1 w w' (vs.getD i nilS) v' n (ints xs)) (hn : n = xs.length) : Rows (w'.setCell ⟨g, i, none⟩ v') g (vs.set i v') (xss.set i xs) := by
  subst hn
  have hne : some g ≠ (vs.getD i nilS).ownBlock := fun e => by have := ((h.own i hi).lt g e.symm).1; omega
  have hiv : i < vs.length := by rw [h.len]; exact hi
  refine ⟨(h.arr.grown hap.grew hne).set i v', by simp [h.len], fun j hj => ?_, fun j k hj hk hjk => ?_⟩
  · rw [getD_set' _ _ _ _ _ hiv, getD_set' _ _ _ _ _ hi]
    by_cases e : j = i
    · rw [if_pos e, if_pos e]
      exact ownsRow_setCell_below hap.own (by show g < g + 1; omega) _
    · rw [if_neg e, if_neg e]
      have hj' : j < xss.length := by simpa using hj
      exact ownsRow_setCell_below ((h.own j hj').kept hap.grew (h.apart j i hj' hi e)) (by show g < g + 1; omega) _
  · have hj' : j < xss.length := by simpa using hj
    have hk' : k < xss.length := by simpa using hk
    rw [getD_set' _ _ _ _ _ hiv, getD_set' _ _ _ _ _ hiv]
    by_cases e1 : j = i
    · have e2 : k ≠ i := fun h => hjk (e1.trans h.symm)
      rw [if_pos e1, if_neg e2]
      rcases hap.lies with hl | hl
      · rw [hl]
        exact h.apart i k hi hk' (Ne.symm e2)
      · refine .inr ?_
        rw [hl]
        intro e
        have := ((h.own k hk').lt _ e.symm).2
        omega
    · rw [if_neg e1]
      by_cases e2 : k = i
      · rw [if_pos e2]
        rcases hap.lies with hl | hl
        · rw [hl]
          exact h.apart j i hj' hi e1
        · refine .inr ?_
          rw [hl]
          intro e
          have := ((h.own j hj').lt _ e).2
          omega
      · rw [if_neg e2]
        exact h.apart j k hj' hk' hjk
/-- A slice of slices of numbers that is read. -/
structure RdRows (w : World) (r : Value) (gs : List (List Int)) : Prop where
  out : ∃ vs : List Value, Rd w r gs.length vs ∧ vs.length = gs.length ∧ ∀ i, i < gs.length → Rd w (vs.getD i nilS) (gs.getD i []).length (ints (gs.getD i []))
theorem RdRows.below {w w' : World} {r : Value} {gs : List (List Int)} (h : RdRows w r gs) (hb : Below w.heap.size w w') : RdRows w' r gs := by
  obtain ⟨vs, h1, h2, h3⟩ := h.out
  exact ⟨vs, h1.below hb, h2, fun i hi => (h3 i hi).below hb⟩
theorem Rows.rd {w : World} {g : Nat} {vs : List Value} {xss : List (List Int)} (h : Rows w g vs xss) (hm : xss.length ≤ 9223372036854775807) : RdRows w (.slice (some ⟨g, 0, none⟩) xss.length xss.length) xss :=
  ⟨vs, h.arr.rd _ _ (Nat.le_refl _) hm, h.len, fun i hi => Rd.of_own (h.own i hi)⟩

/-! ### graph -/
def turnB (back : Bool) (p : Int × Int) : Int × Int := if back then (p.2, p.1) else p
def addE (g : List (List Int)) (p : Int × Int) : List (List Int) := g.set p.1.toNat (g.getD p.1.toNat [] ++ [p.2])
def graphF (n : Nat) (E : List (Int × Int)) (back : Bool) : List (List Int) := (E.map (turnB back)).foldl addE (List.replicate n [])
theorem addE_length (g : List (List Int)) (p : Int × Int) : (addE g p).length = g.length := by simp [addE]
theorem graphF_snoc {n : Nat} {E : List (Int × Int)} {back : Bool} {k : Nat} (h : k < E.length) : graphF n (E.take (k + 1)) back = addE (graphF n (E.take k) back) (turnB back E[k]) := by
  rw [graphF, List.take_succ_eq_append_getElem h, List.map_append, List.foldl_append]; rfl
theorem foldl_addE_length (l : List (Int × Int)) (g : List (List Int)) : (l.foldl addE g).length = g.length := by
  induction l generalizing g with
  | nil => rfl
  | cons x l ih => rw [List.foldl_cons, ih, addE_length]
theorem graphF_length (n : Nat) (E : List (Int × Int)) (back : Bool) : (graphF n E back).length = n := by
  rw [graphF, foldl_addE_length]; simp
def total (g : List (List Int)) : Nat := (g.map List.length).sum
theorem total_set (g : List (List Int)) (i : Nat) (l : List Int) (h : i < g.length) : total (g.set i l) + (g.getD i []).length = total g + l.length := by
  induction g generalizing i with
  | nil => simp at h
  | cons a g ih =>
    cases i with
    | zero => simp [total]; omega
    | succ i =>
      have := ih i (by simpa using h)
      simp [total] at *
      omega
theorem le_total (g : List (List Int)) (i : Nat) : (g.getD i []).length ≤ total g := by
  induction g generalizing i with
  | nil => simp
  | cons a g ih =>
    cases i with
    | zero => simp [total]
    | succ i =>
      have := ih i
      simp [total] at *
      omega
theorem total_addE (g : List (List Int)) (p : Int × Int) : total (addE g p) ≤ total g + 1 := by
  by_cases h : p.1.toNat < g.length
  · have := total_set g p.1.toNat (g.getD p.1.toNat [] ++ [p.2]) h
    simp at this
    simp only [addE, List.getD_eq_getElem?_getD] at *
    omega
  · rw [addE, List.set_eq_of_length_le (by omega)]; omega
theorem total_graph (n : Nat) (E : List (Int × Int)) (back : Bool) : total (graphF n E back) ≤ E.length := by
  have key : ∀ (l : List (Int × Int)) (g : List (List Int)), total (l.foldl addE g) ≤ total g + l.length := by
    intro l
    induction l with
    | nil => intro g; simp
    | cons x l ih =>
      intro g
      have := ih (addE g x)
      have := total_addE g x
      simp only [List.foldl_cons, List.length_cons]
      omega
  have := key (E.map (turnB back)) (List.replicate n [])
  have h0 : total (List.replicate n []) = 0 := by simp [total]
  simp only [graphF]
  rw [h0] at this
  simpa using this
theorem mem_addE (g : List (List Int)) (p : Int × Int) (h : p.1.toNat < g.length) (a : Nat) (b : Int) : b ∈ (addE g p).getD a [] ↔ b ∈ g.getD a [] ∨ (a = p.1.toNat ∧ b = p.2) := by
  rw [addE, getD_set' _ _ _ _ _ h]
  by_cases e : a = p.1.toNat
  · subst e; simp
  · simp [e]
theorem mem_graph {n : Nat} {E : List (Int × Int)} {back : Bool} (h : ∀ p ∈ E, (0 ≤ p.1 ∧ p.1 < n) ∧ (0 ≤ p.2 ∧ p.2 < n)) (a : Nat) (b : Int) : b ∈ (graphF n E back).getD a [] ↔ ((a : Int), b) ∈ E.map (turnB back) := by
  have key : ∀ (l : List (Int × Int)) (g : List (List Int)), (∀ p ∈ l, 0 ≤ p.1 ∧ p.1.toNat < g.length) → (b ∈ (l.foldl addE g).getD a [] ↔ b ∈ g.getD a [] ∨ ((a : Int), b) ∈ l) := by
    intro l
    induction l with
    | nil => intro g _; simp
    | cons x l ih =>
      intro g hg
      have hx := hg x (by simp)
      rw [List.foldl_cons, ih (addE g x) (fun p hp => by rw [addE_length]; exact hg p (by simp [hp])), mem_addE g x hx.2]
      have : (a = x.1.toNat ∧ b = x.2) ↔ ((a : Int), b) = x := by
        rw [Prod.ext_iff]; simp; intro _; omega
      rw [this, List.mem_cons, or_assoc]
  rw [graphF, key _ _ (fun p hp => ?_)]
  · rw [getD_replicate]; simp
  · obtain ⟨q, hq, rfl⟩ := List.mem_map.1 hp
    have := h q hq
    cases back <;> simp [turnB] <;> omega

set_option maxHeartbeats 4000000 in
set_option maxRecDepth 100000 in
theorem graph_rows (w : World) (n : Nat) (v : Value) (E : List (Int × Int)) (back : Bool) (h : Rd w v E.length (pairs E)) (hn : n ≤ 16384) (hE : ∀ p ∈ E, (0 ≤ p.1 ∧ p.1 < n) ∧ (0 ≤ p.2 ∧ p.2 < n)) (hb : E.length * 8 ≤ 140737488351232) :
    Calls Try.prog 25 #[I n, v, .bool back] w fun e w' => e = .returned (.slice (some ⟨w.heap.size, 0, none⟩) n n) ∧ (∃ vs, Rows w' w.heap.size vs (graphF n E back)) ∧ Below w.heap.size w w' := by
  obtain ⟨A, cap, rfl, hm⟩ := h.form
  have hmk := run_make_row' (P := Try.prog) 42 26 (.slice none 0 0) 24 Try.underlying42 (by kernel_rfl) rfl .i64 .i64 n (by omega) (by omega)
  have hx := Lib.hid h
  have hEH := Lib.hid hE
  clear h hE
  go_enter Try.func25, Try.ntmps25
  go_wp2
  clear hmk
  go_loopw [14] (fun i wr => ∃ (k : Nat) (vs : List Value), k ≤ E.length ∧ i = .int .i64 k ∧ Rows wr w.heap.size vs (graphF n (E.take k) back) ∧ Below w.heap.size w wr) (fun i _ => E.length - (intOf i).toNat)
  case atStart => exact ⟨0, _, Nat.zero_le _, rfl, Rows.start w n, below_alloc _ _⟩
  case round =>
    obtain ⟨k, vs, hk, rfl, hrows, hB⟩ := hrel
    have hR := Lib.hid hrows
    clear hrows
    by_cases hlt : k < E.length
    · obtain ⟨b1, o1, _, e1, _, hb1, g1⟩ := hx.out.elem (by simp; omega)
      cases e1
      obtain ⟨f0, f1⟩ := edge_cells hB hb1 g1 k hlt
      clear g1
      have hfr := hEH.out E[k] (List.getElem_mem hlt)
      have hS := Lib.hid (graphF_snoc (n := n) (back := back) hlt)
      obtain ⟨x, hxx⟩ : ∃ x : Nat, E[k].1 = x := ⟨E[k].1.toNat, by omega⟩
      obtain ⟨y, hyy⟩ : ∃ y : Nat, E[k].2 = y := ⟨E[k].2.toNat, by omega⟩
      have hxn : x < n := by omega
      have hyn : y < n := by omega
      have hsz := hB.size
      rw [hxx] at f0
      rw [hyy] at f1
      have hXX := Lib.hid hxx
      have hYY := Lib.hid hyy
      clear hxx hyy hfr
      cases back with
      | false =>
        go_wp2
        obtain ⟨W0, hW0⟩ : ∃ W0, wr.alloc (Obj.cells #[Value.int IntKind.i64 (x : Int), Value.int IntKind.i64 (y : Int)] 47) = W0 := ⟨_, rfl⟩
        rw [hW0]
        have hA0 : Arr W0 wr.heap.size 47 [I x, I y] := by rw [← hW0]; exact Arr.new wr 47 _
        have hR0 : Hid (Rows W0 w.heap.size vs (graphF n (E.take k) false)) := by rw [← hW0]; exact hR.out.alloc _
        have hB0 : Below w.heap.size w W0 := by rw [← hW0]; exact hB.alloc hsz _
        have hs0 : wr.heap.size < W0.heap.size := by rw [← hW0]; simp
        clear hW0
        have c0 : W0.cell? ⟨wr.heap.size, 0, none⟩ = some (I x) := hA0.cell 0
        have c1 : W0.cell? ⟨wr.heap.size, 1, none⟩ = some (I y) := hA0.cell 1
        have hav : x < vs.length := by rw [hR0.out.len, graphF_length]; omega
        obtain ⟨va, hva⟩ : ∃ va, vs.getD x nilS = va := ⟨_, rfl⟩
        have c2 : W0.cell? ⟨w.heap.size, x, none⟩ = some va := by rw [hR0.out.arr.cell, ← hva, List.getD_eq_getElem?_getD, List.getElem?_eq_getElem hav]; rfl
        have c3 : W0.frozen? ⟨w.heap.size, x, none⟩ = false := hR0.out.arr.frozen x
        have hal : x < (graphF n (E.take k) false).length := by rw [graphF_length]; omega
        obtain ⟨row, hrow⟩ : ∃ row, (graphF n (E.take k) false).getD x [] = row := ⟨_, rfl⟩
        have hown := Lib.hid (hR0.out.own x hal)
        rw [hva, hrow] at hown
        have hVA := Lib.hid hva
        have hROW := Lib.hid hrow
        have hlen : Hid (row.length ≤ E.length) := Lib.hid (by rw [← hrow]; exact Nat.le_trans (le_total _ _) (Nat.le_trans (total_graph _ _ _) (by simp; omega)))
        have hne : Hid (some w.heap.size ≠ va.ownBlock) := Lib.hid (fun e => by have := (hown.out.lt _ e.symm).1; omega)
        have hne2 : Hid (some wr.heap.size ≠ va.ownBlock) := by
          refine Lib.hid (fun e => ?_)
          rcases hown.out.2 with ⟨h, _⟩ | ⟨g, cp, cur, h, _, hh, _⟩
          · rw [h] at e; simp [Value.ownBlock] at e
          · rw [h] at e
            simp [Value.ownBlock] at e
            have h1 := hA0.out
            rw [e, hh] at h1
            simp at h1
        have hz1 : (x : Int) < n := by omega
        have hlt0 : w.heap.size < W0.heap.size := by omega
        clear hva hA0 hR hrow
        refine wp_region_z (fun w' => w'.cell? ⟨wr.heap.size, 0, none⟩ = some (I x) ∧ w'.cell? ⟨wr.heap.size, 1, none⟩ = some (I y) ∧ w'.cell? ⟨w.heap.size, x, none⟩ = some va) 13 (by kernel_rfl) ?_
        have hS0 : W0.drew.cell? ⟨wr.heap.size, 0, none⟩ = some (I x) ∧ W0.drew.cell? ⟨wr.heap.size, 1, none⟩ = some (I y) ∧ W0.drew.cell? ⟨w.heap.size, x, none⟩ = some va := ⟨c0, c1, c2⟩
        refine wpZ_take (i := 0) (v := ?_) rfl (by kernel_rfl) (fun _ _ _ h => h) (Or.inl ⟨rfl, ?_⟩) hS0 ?_
        rotate_left
        · rintro W ⟨s0, s1, s2⟩
          go_simp
          try (with_reducible rfl)
        refine wpZ_take (i := 1) (v := ?_) rfl (by kernel_rfl) (fun _ _ _ h => h) (Or.inl ⟨rfl, ?_⟩) hS0 ?_
        rotate_left
        · rintro W ⟨s0, s1, s2⟩
          go_simp
          try (with_reducible rfl)
        refine wpZ_take (i := 2) (v := ?_) rfl (by kernel_rfl) (fun _ _ _ h => h) (Or.inl ⟨rfl, ?_⟩) hS0 ?_
        rotate_left
        · rintro W ⟨s0, s1, s2⟩
          go_simp
          try (with_reducible rfl)
        refine wpZ_take (i := 3) (v := ?_) rfl (by kernel_rfl) (fun _ _ _ h => h) (Or.inl ⟨rfl, ?_⟩) hS0 ?_
        rotate_left
        · rintro W ⟨s0, s1, s2⟩
          go_simp
          try (with_reducible rfl)
        refine wpZ_take (i := 4) (v := ?_) rfl (by kernel_rfl) (fun _ _ _ h => h) (Or.inl ⟨rfl, ?_⟩) hS0 ?_
        rotate_left
        · rintro W ⟨s0, s1, s2⟩
          go_simp
          try (with_reducible rfl)
        refine wpZ_take (i := 5) (v := ?_) rfl (by kernel_rfl) (fun _ _ _ h => h) (Or.inl ⟨rfl, ?_⟩) hS0 ?_
        rotate_left
        · rintro W ⟨s0, s1, s2⟩
          go_simp
          try (with_reducible rfl)
        refine wpZ_take (i := 6) (v := ?_) rfl (by kernel_rfl) (fun _ _ _ h => h) (Or.inl ⟨rfl, ?_⟩) hS0 ?_
        rotate_left
        · rintro W ⟨s0, s1, s2⟩
          go_simp
          try (with_reducible rfl)
        refine wpZ_take (i := 7) (v := ?_) rfl (by kernel_rfl) (fun _ _ _ h => h) (Or.inl ⟨rfl, ?_⟩) hS0 ?_
        rotate_left
        · rintro W ⟨s0, s1, s2⟩
          go_simp
          try (with_reducible rfl)
        refine wpZ_take (i := 8) (v := ?_) rfl (by kernel_rfl) (fun _ _ _ h => h) (Or.inl ⟨rfl, ?_⟩) hS0 ?_
        rotate_left
        · rintro W ⟨s0, s1, s2⟩
          go_simp
          try (with_reducible rfl)
        refine wpZ_take (i := 9) (v := ?_) rfl (by kernel_rfl) (fun _ _ _ h => h) (Or.inl ⟨rfl, ?_⟩) hS0 ?_
        rotate_left
        · rintro W ⟨s0, s1, s2⟩
          go_simp
          try (with_reducible rfl)
        refine wpZ_one (i := 10) rfl (by kernel_rfl) (fun K hK => ?_)
        go_simp
        refine hK _ _ (fun _ => ⟨cell_later _ c0, cell_later _ c1, cell_later _ c2⟩) ?_
        clear hK K hS0
        refine wpZ_one (i := 11) rfl (by kernel_rfl) (fun K hK => ?_)
        refine step_append (by rfl) _ _ _ (by rfl) E26 (by rfl) ((hown.out.alloc _).drew) (ad := ⟨W0.heap.size, 0, none⟩) (m := 1) (c := 1) (news := [I y]) (by rfl) (by rfl) (World.news_of_block (cs := #[I y]) (t := 3) (fr := (0, 0)) (heap_alloc_new W0 _)) (by simp [Value.oneCell']) (by omega) (by have := hlen.out; simp only [maxLen]; omega) (by have := hlen.out; omega) (by simp; omega) ?_
        intro g' cap' w1 hap
        have hS1 : w1.cell? ⟨wr.heap.size, 0, none⟩ = some (I x) ∧ w1.cell? ⟨wr.heap.size, 1, none⟩ = some (I y) ∧ w1.cell? ⟨w.heap.size, x, none⟩ = some va := ⟨hap.grew.cell (cell_later _ c0) hne2.out, hap.grew.cell (cell_later _ c1) hne2.out, hap.grew.cell (cell_later _ c2) hne.out⟩
        have d1 : w1.frozen? ⟨w.heap.size, x, none⟩ = false := (hap.grew.frozen_far ⟨w.heap.size, x, none⟩ (by simp; omega) hne.out).trans (frozen_later _ c3 hlt0)
        refine hK _ _ (fun _ => hS1) ?_
        clear hK K
        refine wpZ_take (i := 12) (v := ?_) rfl (by kernel_rfl) (fun _ _ _ h => h) (Or.inl ⟨rfl, ?_⟩) hS1 ?_
        rotate_left
        · rintro W ⟨s0, s1, s2⟩
          go_simp
          try (with_reducible rfl)
        obtain ⟨d2, d3, d4⟩ := hS1
        refine wpZ_one (i := 13) rfl (by kernel_rfl) (fun K hK => ?_)
        go_simp
        refine hK _ _ (fun h => absurd rfl h) ?_
        clear hK K
        refine wpZ_done (by kernel_rfl) ?_ _
        go_wp2
        go_roundw
        case rel =>
          have hap' := hap
          rw [← hVA.out, show ints row ++ [I y] = ints (row ++ [(y : Int)]) from by rw [ints_append]; rfl] at hap'
          have hput := ((hR0.out.alloc _).drew).put hal hap' (by simp)
          have hp : addE (graphF n (E.take k) false) (turnB false E[k]) = (graphF n (E.take k) false).set x (row ++ [(y : Int)]) := by
            have hRO := hROW.out
            simp only [addE, turnB, hXX.out, hYY.out, Int.toNat_natCast, if_true, if_false, Bool.false_eq_true, hRO]
          rw [← hp, ← hS.out] at hput
          exact ⟨k + 1, _, by omega, by go_num, hput, (hap.below ((hB0.alloc (by omega) _).drew) ((hown.out.alloc _).drew) (by omega) (by simp; omega)).setCell (Nat.le_refl _) _⟩
        case measure => simp [intOf]; omega
      | true =>
        go_wp2
        obtain ⟨W0, hW0⟩ : ∃ W0, wr.alloc (Obj.cells #[Value.int IntKind.i64 (y : Int), Value.int IntKind.i64 (x : Int)] 47) = W0 := ⟨_, rfl⟩
        rw [hW0]
        have hA0 : Arr W0 wr.heap.size 47 [I y, I x] := by rw [← hW0]; exact Arr.new wr 47 _
        have hR0 : Hid (Rows W0 w.heap.size vs (graphF n (E.take k) true)) := by rw [← hW0]; exact hR.out.alloc _
        have hB0 : Below w.heap.size w W0 := by rw [← hW0]; exact hB.alloc hsz _
        have hs0 : wr.heap.size < W0.heap.size := by rw [← hW0]; simp
        clear hW0
        have c0 : W0.cell? ⟨wr.heap.size, 0, none⟩ = some (I y) := hA0.cell 0
        have c1 : W0.cell? ⟨wr.heap.size, 1, none⟩ = some (I x) := hA0.cell 1
        have hav : y < vs.length := by rw [hR0.out.len, graphF_length]; omega
        obtain ⟨va, hva⟩ : ∃ va, vs.getD y nilS = va := ⟨_, rfl⟩
        have c2 : W0.cell? ⟨w.heap.size, y, none⟩ = some va := by rw [hR0.out.arr.cell, ← hva, List.getD_eq_getElem?_getD, List.getElem?_eq_getElem hav]; rfl
        have c3 : W0.frozen? ⟨w.heap.size, y, none⟩ = false := hR0.out.arr.frozen y
        have hal : y < (graphF n (E.take k) true).length := by rw [graphF_length]; omega
        obtain ⟨row, hrow⟩ : ∃ row, (graphF n (E.take k) true).getD y [] = row := ⟨_, rfl⟩
        have hown := Lib.hid (hR0.out.own y hal)
        rw [hva, hrow] at hown
        have hVA := Lib.hid hva
        have hROW := Lib.hid hrow
        have hlen : Hid (row.length ≤ E.length) := Lib.hid (by rw [← hrow]; exact Nat.le_trans (le_total _ _) (Nat.le_trans (total_graph _ _ _) (by simp; omega)))
        have hne : Hid (some w.heap.size ≠ va.ownBlock) := Lib.hid (fun e => by have := (hown.out.lt _ e.symm).1; omega)
        have hne2 : Hid (some wr.heap.size ≠ va.ownBlock) := by
          refine Lib.hid (fun e => ?_)
          rcases hown.out.2 with ⟨h, _⟩ | ⟨g, cp, cur, h, _, hh, _⟩
          · rw [h] at e; simp [Value.ownBlock] at e
          · rw [h] at e
            simp [Value.ownBlock] at e
            have h1 := hA0.out
            rw [e, hh] at h1
            simp at h1
        have hz1 : (y : Int) < n := by omega
        have hlt0 : w.heap.size < W0.heap.size := by omega
        clear hva hA0 hR hrow
        refine wp_region_z (fun w' => w'.cell? ⟨wr.heap.size, 0, none⟩ = some (I y) ∧ w'.cell? ⟨wr.heap.size, 1, none⟩ = some (I x) ∧ w'.cell? ⟨w.heap.size, y, none⟩ = some va) 13 (by kernel_rfl) ?_
        have hS0 : W0.drew.cell? ⟨wr.heap.size, 0, none⟩ = some (I y) ∧ W0.drew.cell? ⟨wr.heap.size, 1, none⟩ = some (I x) ∧ W0.drew.cell? ⟨w.heap.size, y, none⟩ = some va := ⟨c0, c1, c2⟩
        refine wpZ_take (i := 0) (v := ?_) rfl (by kernel_rfl) (fun _ _ _ h => h) (Or.inl ⟨rfl, ?_⟩) hS0 ?_
        rotate_left
        · rintro W ⟨s0, s1, s2⟩
          go_simp
          try (with_reducible rfl)
        refine wpZ_take (i := 1) (v := ?_) rfl (by kernel_rfl) (fun _ _ _ h => h) (Or.inl ⟨rfl, ?_⟩) hS0 ?_
        rotate_left
        · rintro W ⟨s0, s1, s2⟩
          go_simp
          try (with_reducible rfl)
        refine wpZ_take (i := 2) (v := ?_) rfl (by kernel_rfl) (fun _ _ _ h => h) (Or.inl ⟨rfl, ?_⟩) hS0 ?_
        rotate_left
        · rintro W ⟨s0, s1, s2⟩
          go_simp
          try (with_reducible rfl)
        refine wpZ_take (i := 3) (v := ?_) rfl (by kernel_rfl) (fun _ _ _ h => h) (Or.inl ⟨rfl, ?_⟩) hS0 ?_
        rotate_left
        · rintro W ⟨s0, s1, s2⟩
          go_simp
          try (with_reducible rfl)
        refine wpZ_take (i := 4) (v := ?_) rfl (by kernel_rfl) (fun _ _ _ h => h) (Or.inl ⟨rfl, ?_⟩) hS0 ?_
        rotate_left
        · rintro W ⟨s0, s1, s2⟩
          go_simp
          try (with_reducible rfl)
        refine wpZ_take (i := 5) (v := ?_) rfl (by kernel_rfl) (fun _ _ _ h => h) (Or.inl ⟨rfl, ?_⟩) hS0 ?_
        rotate_left
        · rintro W ⟨s0, s1, s2⟩
          go_simp
          try (with_reducible rfl)
        refine wpZ_take (i := 6) (v := ?_) rfl (by kernel_rfl) (fun _ _ _ h => h) (Or.inl ⟨rfl, ?_⟩) hS0 ?_
        rotate_left
        · rintro W ⟨s0, s1, s2⟩
          go_simp
          try (with_reducible rfl)
        refine wpZ_take (i := 7) (v := ?_) rfl (by kernel_rfl) (fun _ _ _ h => h) (Or.inl ⟨rfl, ?_⟩) hS0 ?_
        rotate_left
        · rintro W ⟨s0, s1, s2⟩
          go_simp
          try (with_reducible rfl)
        refine wpZ_take (i := 8) (v := ?_) rfl (by kernel_rfl) (fun _ _ _ h => h) (Or.inl ⟨rfl, ?_⟩) hS0 ?_
        rotate_left
        · rintro W ⟨s0, s1, s2⟩
          go_simp
          try (with_reducible rfl)
        refine wpZ_take (i := 9) (v := ?_) rfl (by kernel_rfl) (fun _ _ _ h => h) (Or.inl ⟨rfl, ?_⟩) hS0 ?_
        rotate_left
        · rintro W ⟨s0, s1, s2⟩
          go_simp
          try (with_reducible rfl)
        refine wpZ_one (i := 10) rfl (by kernel_rfl) (fun K hK => ?_)
        go_simp
        refine hK _ _ (fun _ => ⟨cell_later _ c0, cell_later _ c1, cell_later _ c2⟩) ?_
        clear hK K hS0
        refine wpZ_one (i := 11) rfl (by kernel_rfl) (fun K hK => ?_)
        refine step_append (by rfl) _ _ _ (by rfl) E26 (by rfl) ((hown.out.alloc _).drew) (ad := ⟨W0.heap.size, 0, none⟩) (m := 1) (c := 1) (news := [I x]) (by rfl) (by rfl) (World.news_of_block (cs := #[I x]) (t := 3) (fr := (0, 0)) (heap_alloc_new W0 _)) (by simp [Value.oneCell']) (by omega) (by have := hlen.out; simp only [maxLen]; omega) (by have := hlen.out; omega) (by simp; omega) ?_
        intro g' cap' w1 hap
        have hS1 : w1.cell? ⟨wr.heap.size, 0, none⟩ = some (I y) ∧ w1.cell? ⟨wr.heap.size, 1, none⟩ = some (I x) ∧ w1.cell? ⟨w.heap.size, y, none⟩ = some va := ⟨hap.grew.cell (cell_later _ c0) hne2.out, hap.grew.cell (cell_later _ c1) hne2.out, hap.grew.cell (cell_later _ c2) hne.out⟩
        have d1 : w1.frozen? ⟨w.heap.size, y, none⟩ = false := (hap.grew.frozen_far ⟨w.heap.size, y, none⟩ (by simp; omega) hne.out).trans (frozen_later _ c3 hlt0)
        refine hK _ _ (fun _ => hS1) ?_
        clear hK K
        refine wpZ_take (i := 12) (v := ?_) rfl (by kernel_rfl) (fun _ _ _ h => h) (Or.inl ⟨rfl, ?_⟩) hS1 ?_
        rotate_left
        · rintro W ⟨s0, s1, s2⟩
          go_simp
          try (with_reducible rfl)
        obtain ⟨d2, d3, d4⟩ := hS1
        refine wpZ_one (i := 13) rfl (by kernel_rfl) (fun K hK => ?_)
        go_simp
        refine hK _ _ (fun h => absurd rfl h) ?_
        clear hK K
        refine wpZ_done (by kernel_rfl) ?_ _
        go_wp2
        go_roundw
        case rel =>
          have hap' := hap
          rw [← hVA.out, show ints row ++ [I x] = ints (row ++ [(x : Int)]) from by rw [ints_append]; rfl] at hap'
          have hput := ((hR0.out.alloc _).drew).put hal hap' (by simp)
          have hp : addE (graphF n (E.take k) true) (turnB true E[k]) = (graphF n (E.take k) true).set y (row ++ [(x : Int)]) := by
            have hRO := hROW.out
            simp only [addE, turnB, hXX.out, hYY.out, Int.toNat_natCast, if_true, if_false, Bool.false_eq_true, hRO]
          rw [← hp, ← hS.out] at hput
          exact ⟨k + 1, _, by omega, by go_num, hput, (hap.below ((hB0.alloc (by omega) _).drew) ((hown.out.alloc _).drew) (by omega) (by simp; omega)).setCell (Nat.le_refl _) _⟩
        case measure => simp [intOf]; omega
    · go_wp2
      go_ret
      have e : E.take k = E := List.take_of_length_le (by omega)
      have hR := hR.out
      rw [e] at hR
      exact ⟨rfl, ⟨vs, hR⟩, hB⟩

theorem graph_any (w : World) (n : Nat) (v : Value) (E : List (Int × Int)) (back : Bool) (h : Rd w v E.length (pairs E)) (hn : n ≤ 16384) (hE : ∀ p ∈ E, (0 ≤ p.1 ∧ p.1 < n) ∧ (0 ≤ p.2 ∧ p.2 < n)) (hb : E.length * 8 ≤ 140737488351232) :
    Calls Try.prog 25 #[I n, v, .bool back] w fun e w' => ∃ r, e = .returned r ∧ RdRows w' r (graphF n E back) ∧ Below w.heap.size w w' :=
  (graph_rows w n v E back h hn hE hb).mono fun e w' ⟨he, ⟨vs, hR⟩, hB⟩ => ⟨_, he, (by have := hR.rd (by rw [graphF_length]; omega); rwa [graphF_length] at this), hB⟩
end Go.Proofs.Ytcghkemfepnihaa
