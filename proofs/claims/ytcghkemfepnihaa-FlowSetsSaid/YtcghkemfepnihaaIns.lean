/- slices.BinarySearch and slices.Insert at []int: laid by the shelf's command, and turned to Rd and ownsRow. The numbers are this seat's. -/
import Derived.Ground.Names2Prog
import Derived.Shelf.Slices.SearchI
import Derived.Shelf.Slices.Empties
import Derived.Shelf.Spec.SlicesInsertGrow
import Derived.Test.YtcghkemfepnihaaBfsW
import Derived.Deep.Upon
namespace Go.Proofs
open Go.Shelf
def Try.laysNm225_ren : Go.Shelf.Ren := ⟨fun | 25 => 28 | 31 => 35 | 32 => 36 | 37 => 39 | n => n, fun | 22 => 26 | 3 => 3 | 4 => 4 | 40 => 62 | 0 => 0 | n => n, fun | n => n⟩
theorem Try.laysNm225 : Go.Proofs.Lays2.n25 Try.prog Try.laysNm225_ren := {
  mixed := by kernel_rfl
  f25 := Try.func28.trans (congrArg some (by kernel_rfl))
  f31 := Try.func35.trans (congrArg some (by kernel_rfl))
  f32 := Try.func36.trans (congrArg some (by kernel_rfl))
  f37 := Try.func39.trans (congrArg some (by kernel_rfl))
  t0 := Try.underlying0
  a0 := Try.isAgg0
  z0 := Try.sizeOf0
  v0 := Try.zeroValue0
  t3 := Try.underlying3
  a3 := Try.isAgg3
  z3 := Try.sizeOf3
  v3 := Try.zeroValue3
  t4 := Try.underlying4
  a4 := Try.isAgg4
  z4 := Try.sizeOf4
  v4 := Try.zeroValue4
  t22 := Try.underlying26
  a22 := Try.isAgg26
  z22 := Try.sizeOf26
  v22 := Try.zeroValue26
  t40 := Try.underlying62
  a40 := Try.isAgg62
  z40 := Try.sizeOf62
  v40 := Try.zeroValue62 }
open Go.RowKit Go.Lib in
/-- slices.BinarySearch at []int: "BinarySearch searches for target in a sorted slice and returns the earliest position where target is found, or the position where target would appear in the sort order; it also returns a bool saying whether the target is really found in the slice. The slice must be sorted in increasing order.": OF A SORTED SLICE IT RETURNS how many elements are less than the target, and whether the target is among the elements; the world is as it was but for the count of draws. 'zs': what the cells behind the slice's address hold; 'zs.take n': its elements. (Of a slice that is not sorted: no contract here.) (LAID: no walk: one application.) -/
theorem Try.slices_BinarySearch_int (b off n c : Nat) (zs : List Int) (x : Int) (w : World) (hz : n ≤ zs.length) (hbig : n < 4611686018427387904) (hc : ∀ j, j < zs.length → w.cell? ⟨b, off + j, none⟩ = some (.int .i64 (zs.getD j 0))) (hs : (zs.take n).Pairwise (· ≤ ·)) :
    Calls Try.prog 28 #[.slice (some ⟨b, off, none⟩) n c, .int .i64 x] w fun e w' => e = .returned (.tuple #[.int .i64 ((zs.take n).countP (· < x) : Nat), .bool ((zs.take n).contains x)]) ∧ ∃ q, w' = w.drewN q := Any.slices_BinarySearch_int Try.laysNm225 b off n c zs x w hz hbig hc hs
open Go.RowKit Go.Lib in
/-- slices.BinarySearch at []int of no element: position 0, not found; the world is as it was. (LAID: no walk: one application.) -/
theorem Try.slices_BinarySearch_int_empty (a : Option Addr) (c : Nat) (x : Int) (w : World) :
    Calls Try.prog 28 #[.slice a 0 c, .int .i64 x] w fun e w' => e = .returned (.tuple #[.int .i64 0, .bool false]) ∧ w' = w := Any.slices_BinarySearch_int_empty Try.laysNm225 a c x w
def Try.laysNm221_ren : Go.Shelf.Ren := ⟨fun | 21 => 29 | 27 => 37 | 28 => 38 | 35 => 40 | 39 => 41 | n => n, fun | 22 => 26 | 3 => 3 | 4 => 4 | 0 => 0 | n => n, fun | n => n⟩
theorem Try.laysNm221 : Go.Proofs.Lays2.n21 Try.prog Try.laysNm221_ren := {
  mixed := by kernel_rfl
  f21 := Try.func29.trans (congrArg some (by kernel_rfl))
  f27 := Try.func37.trans (congrArg some (by kernel_rfl))
  f28 := Try.func38.trans (congrArg some (by kernel_rfl))
  f35 := Try.func40.trans (congrArg some (by kernel_rfl))
  f39 := Try.func41.trans (congrArg some (by kernel_rfl))
  t0 := Try.underlying0
  a0 := Try.isAgg0
  z0 := Try.sizeOf0
  v0 := Try.zeroValue0
  t3 := Try.underlying3
  a3 := Try.isAgg3
  z3 := Try.sizeOf3
  v3 := Try.zeroValue3
  t4 := Try.underlying4
  a4 := Try.isAgg4
  z4 := Try.sizeOf4
  v4 := Try.zeroValue4
  t22 := Try.underlying26
  a22 := Try.isAgg26
  z22 := Try.sizeOf26
  v22 := Try.zeroValue26
  i3 := by kernel_rfl }
end Go.Proofs
namespace Go.Proofs.Ytcghkemfepnihaa
open Go.RowKit Go.Shelf

theorem search_any (w : World) (v : Value) (l : List Int) (x : Int) (h : Rd w v l.length (ints l)) (hs : l.Pairwise (· < ·)) (hl : l.length < 4611686018427387904) :
    Calls Try.prog 28 #[v, I x] w fun e w' => e = .returned (.tuple #[I (l.countP (· < x) : Nat), .bool (l.contains x)]) ∧ ∃ q, w' = w.drewN q := by
  cases l with
  | nil =>
    obtain ⟨A, c, rfl, _⟩ := h.form
    refine (Try.slices_BinarySearch_int_empty A c x w).mono ?_
    rintro e w' ⟨rfl, rfl⟩
    exact ⟨rfl, 0, rfl⟩
  | cons a l =>
    obtain ⟨b, off, c, rfl, _, _, hc⟩ := h.elem (by simp)
    refine (Try.slices_BinarySearch_int b off (a :: l).length c (a :: l) x w (Nat.le_refl _) hl (fun j hj => hc j _ (getD_ints hj)) ?_).mono ?_
    · rw [List.take_length]; exact hs.imp (fun h => Int.le_of_lt h)
    · rintro e w' ⟨rfl, hw⟩
      rw [List.take_length]
      exact ⟨rfl, hw⟩

theorem own_of_cells {w : World} {base e g cap n : Nat} {xs : List Value} (hb : base ≤ g) (hh : ∃ cur, w.heap[g]? = some (.cells cur e (0, 0)) ∧ cur.size = cap) (hn : xs.length = n) (hc : n ≤ cap) (hm : cap ≤ maxLen)
    (hx : ∀ j u, xs[j]? = some u → w.cell? ⟨g, j, none⟩ = some u) : w.ownsRow base e 1 (.slice (some ⟨g, 0, none⟩) n cap) n xs := by
  obtain ⟨cur, hcur, hs⟩ := hh
  refine ⟨by simpa using hn, .inr ⟨g, cap, cur, rfl, hb, hcur, hc, hm, by simpa using hs, ?_⟩⟩
  refine List.ext_getElem? fun j => ?_
  by_cases hj : j < n
  · have h1 := hx j xs[j] (List.getElem?_eq_getElem (by omega))
    simp only [World.cell?, hcur] at h1
    rw [List.getElem?_take_of_lt (by omega), List.getElem?_eq_getElem (l := xs) (by omega), ← h1]
    simp
  · rw [List.getElem?_take_eq_none (by omega), List.getElem?_eq_none (by omega)]
theorem setCells_block (g : Nat) : ∀ (vs : List Value) (o : Nat) (w : World) {cur : Array Value} {e : Nat} {fr : Nat × Nat}, w.heap[g]? = some (.cells cur e fr) → ∃ cur', (w.setCells g o vs).heap[g]? = some (.cells cur' e fr) ∧ cur'.size = cur.size
  | [], _, _, cur, _, _, h => ⟨cur, h, rfl⟩
  | v :: r, o, w, cur, e, fr, h => by
    have h1 : (w.setCell ⟨g, o, none⟩ v).heap[g]? = some (.cells (cur.setIfInBounds o v) e fr) := by simp [World.setCell, Array.getElem?_modify, h]
    obtain ⟨cur', h2, h3⟩ := setCells_block g r (o + 1) _ h1
    exact ⟨cur', h2, by simpa using h3⟩
theorem setCells_far (g : Nat) : ∀ (vs : List Value) (o : Nat) (w : World), (w.setCells g o vs).os = w.os ∧ (w.setCells g o vs).tape = w.tape ∧ (w.setCells g o vs).output = w.output ∧ (w.setCells g o vs).heap.size = w.heap.size ∧ ∀ k, k ≠ g → (w.setCells g o vs).heap[k]? = w.heap[k]?
  | [], _, _ => ⟨rfl, rfl, rfl, rfl, fun _ _ => rfl⟩
  | v :: r, o, w => by
    obtain ⟨h1, h2, h3, h4, h5⟩ := setCells_far g r (o + 1) (w.setCell ⟨g, o, none⟩ v)
    exact ⟨h1, h2, h3, h4.trans (by simp), fun k hk => (h5 k hk).trans (Below.heap_setCell _ _ _ _ hk)⟩
theorem grown_setCells (w : World) (g o : Nat) (vs : List Value) : w.grownBy (w.setCells g o vs) (some g) := by
  obtain ⟨h1, h2, h3, h4, h5⟩ := setCells_far g vs o w
  exact ⟨h1, h2, h3, by omega, fun k _ hk => h5 k (fun e => hk (by rw [e]))⟩
theorem grown_trans {a b c : World} {row row' : Option Nat} (h : a.grownBy b row) (k : b.grownBy c row') (hr : ∀ j, j < a.heap.size → some j ≠ row → some j ≠ row') : a.grownBy c row :=
  ⟨k.os.trans h.os, k.tape.trans h.tape, k.output.trans h.output, Nat.le_trans h.size k.size, fun j hj hne => (k.block j (Nat.lt_of_lt_of_le hj h.size) (hr j hj hne)).trans (h.block j hj hne)⟩
def insF (l : List Int) (i : Nat) (s : Int) : List Int := l.take i ++ s :: l.drop i
theorem insF_length (l : List Int) (i : Nat) (s : Int) : (insF l i s).length = l.length + 1 := by simp [insF]; omega
theorem insF_cells (l : List Int) (i : Nat) (s : Int) (hi : i ≤ l.length) (j : Nat) : (ints (insF l i s))[j]? = if j < i then (ints l)[j]? else if j = i then some (I s) else (ints l)[j - 1]? := by
  simp only [insF, ints, List.map_append, List.map_cons, List.map_take, List.map_drop]
  by_cases h1 : j < i
  · rw [if_pos h1, List.getElem?_append_left (by simp; omega), List.getElem?_take_of_lt h1]
  · rw [if_neg h1, List.getElem?_append_right (by simp; omega)]
    simp only [List.length_take, List.length_map]
    rw [Nat.min_eq_left hi]
    by_cases h2 : j = i
    · subst h2; simp
    · rw [if_neg h2, show j - i = (j - 1 - i) + 1 by omega, List.getElem?_cons_succ, List.getElem?_drop]
      congr 1; omega

theorem insert_any (w : World) (base : Nat) (v : Value) (l : List Int) (i : Nat) (s : Int) (vb : Nat) (ho : w.ownsRow base 3 1 v l.length (ints l)) (hi : i ≤ l.length) (ha : Arr w vb 3 [I s]) (hne : v.ownBlock ≠ some vb) (hl : l.length ≤ 1000000000) (hb : base ≤ w.heap.size) :
    Calls Try.prog 29 #[v, I i, .slice (some ⟨vb, 0, none⟩) 1 1] w fun e w' => ∃ g cap, e = .returned (.slice (some ⟨g, 0, none⟩) (l.length + 1) cap) ∧ Ap base 3 1 w w' v (.slice (some ⟨g, 0, none⟩) (l.length + 1) cap) (l.length + 1) (ints (insF l i s)) := by
  have hlen : (ints (insF l i s)).length = l.length + 1 := by rw [ints_length, insF_length]
  have hvs : ∀ (W : World), Arr W vb 3 [I s] → ∀ j u, ([I s] : List Value)[j]? = some u → W.cell? ⟨vb, 0 + j, none⟩ = some u := fun W hW j u hu => by rw [hW.cell]; simpa using hu
  have h1v : ∀ u ∈ ([I s] : List Value), u.oneCell' = true := by simp [Value.oneCell']
  have hown := ho
  have ht3 : Try.laysNm221_ren.t 3 = 3 := rfl
  rcases ho.2 with ⟨rfl, h0⟩ | ⟨g, cap, cur, rfl, hbg, hcur, hn, hm, hsz, htk⟩
  · have hl0 : l = [] := List.eq_nil_of_length_eq_zero h0
    subst hl0
    have hi0 : i = 0 := by simpa using hi
    subst hi0
    refine (Any2.slices_Insert_int_end_grow Try.laysNm221 none 0 0 vb 0 1 1 [] [I s] w (by omega) (by omega) (by omega) (by omega) rfl rfl (fun _ => rfl) (fun a h => by cases h) (hvs w ha) h1v).mono ?_
    rintro e w' ⟨he, hw⟩
    rw [ht3] at he hw
    subst he hw
    have hge := grownCap_ge w (0 + 1) 0 3
    have hcm : grownCap w (0 + 1) 0 3 ≤ maxLen := grownCap_le_maxLen w (0 + 1) 0 3 (by simp [maxLen])
    have hnew := heap_alloc_new w.drew (.cells ((([] : List Value) ++ [I s]).toArray ++ Builtin.zeroCells (Value.int .i64 0).cells (grownCap w (0 + 1) 0 3 - (0 + 1))) 3)
    refine ⟨_, _, rfl, own_of_cells hb ⟨_, hnew, ?_⟩ hlen hge hcm ?_, ⟨rfl, rfl, rfl, by simp, fun k hk _ => heap_alloc_old w.drew _ hk⟩, .inr rfl⟩
    · simp [Builtin.zeroCells, Value.cells] at hge ⊢; omega
    · intro j u hu
      rw [cell_of_row _ w.heap.size j _ _ _ hnew]
      rw [insF_cells _ _ _ (by simp)] at hu
      by_cases hj : j = 0
      · subst hj
        have hu' : I s = u := by simpa using hu
        subst hu'
        rw [Array.getElem?_append_left (by simp)]
        rfl
      · simp [hj, ints] at hu
  · have hcell : ∀ j u, (ints l)[j]? = some u → w.cell? ⟨g, j, none⟩ = some u := fun j u hu => by
      have := ho.cells (g := g) rfl j u hu
      rwa [add_plain', Nat.zero_add] at this
    have hgw : g < w.heap.size := (Array.getElem?_eq_some_iff.1 hcur).1
    have hsome : ∀ j, j < cap → (w.cell? ⟨g, j, none⟩).isSome = true := fun j hj => by simp only [World.cell?, hcur]; rw [Array.getElem?_eq_getElem (by omega)]; rfl
    have hfz : ∀ j, w.frozen? ⟨g, j, none⟩ = false := fun j => by simp [World.frozen?, hcur]
    have hvg : vb ≠ g := fun e => hne (by rw [e]; rfl)
    by_cases hroom : l.length + 1 ≤ cap
    · by_cases hend : i = l.length
      · subst hend
        refine (Any2.slices_Insert_int_end_room Try.laysNm221 g 0 l.length cap vb 0 1 1 [I s] w (by omega) hroom (by simpa [maxLen] using hm) rfl (fun j hj => by simpa using hsome (l.length + j) (by omega)) (fun j hj => by simpa using hfz (l.length + j)) (hvs w ha) h1v).mono ?_
        rintro e w' ⟨rfl, rfl⟩
        rw [Nat.zero_add]
        obtain ⟨cur', hc', hs'⟩ := setCells_block g [I s] l.length w hcur
        refine ⟨_, _, rfl, own_of_cells hbg ⟨cur', hc', by omega⟩ hlen hroom hm ?_, grown_setCells _ _ _ _, .inl rfl⟩
        intro j u hu
        rw [insF_cells _ _ _ hi] at hu
        by_cases h1 : j < l.length
        · rw [if_pos h1] at hu
          rw [World.cell?_setCells_out g _ _ _ _ (fun _ _ => .inl h1)]
          exact hcell j u hu
        · rw [if_neg h1] at hu
          by_cases h2 : j = l.length
          · subst h2
            rw [if_pos rfl] at hu
            cases hu
            exact World.cell?_setCells_in g [I s] l.length w (fun j hj => hsome _ (by simp at hj; omega)) 0 (by simp)
          · rw [if_neg h2, List.getElem?_eq_none (by simp; omega)] at hu
            cases hu
      · have hlt : i < l.length := by omega
        refine (Any2.slices_Insert_int_shift Try.laysNm221 g 0 l.length cap i vb 0 1 1 (ints l) [I s] w hlt (by omega) hroom (by simpa [maxLen] using hm) hvg (by simp) rfl (fun j u hu => by rw [Nat.zero_add]; exact hcell j u hu) (fun j hj => by rw [Nat.zero_add]; exact hsome j (by omega)) (fun j hj => hfz _) (hvs w ha) (ints_one _) h1v
          3 3 1 cur.size (by simp [World.shape?, ha.out]) (by simp [World.shape?, hcur]) (by omega) (ha.frozen _) (ha.frozen _)).mono ?_
        rintro e w' ⟨rfl, rfl⟩
        rw [Nat.zero_add, Nat.zero_add]
        have hcurd : w.drew.heap[g]? = some (.cells cur 3 (0, 0)) := hcur
        obtain ⟨cur1, hc1, hs1⟩ := setCells_block g ((ints l).drop i) (i + 1) w.drew hcurd
        obtain ⟨cur2, hc2, hs2⟩ := setCells_block g [I s] i _ hc1
        have hsome1 : ∀ j, j < cap → ((w.drew.setCells g (i + 1) ((ints l).drop i)).cell? ⟨g, j, none⟩).isSome = true := fun j hj => by simp only [World.cell?, hc1]; rw [Array.getElem?_eq_getElem (by omega)]; rfl
        have hgr : w.grownBy ((w.drew.setCells g (i + 1) ((ints l).drop i)).setCells g i [I s]) (some g) := by
          have e0 : w.grownBy w.drew (some g) := ⟨rfl, rfl, rfl, Nat.le_refl _, fun _ _ _ => rfl⟩
          exact grown_trans (grown_trans e0 (grown_setCells _ g _ _) (fun _ _ h => h)) (grown_setCells _ g _ _) (fun _ _ h => h)
        refine ⟨_, _, rfl, own_of_cells hbg ⟨cur2, hc2, by omega⟩ hlen hroom hm ?_, hgr, .inl rfl⟩
        intro j u hu
        rw [insF_cells _ _ _ hi] at hu
        by_cases h1 : j < i
        · rw [if_pos h1] at hu
          rw [World.cell?_setCells_out g _ _ _ _ (fun _ _ => .inl h1), World.cell?_setCells_out g _ _ _ _ (fun _ _ => .inl (by show j < i + 1; omega))]
          exact hcell j u hu
        · rw [if_neg h1] at hu
          by_cases h2 : j = i
          · subst h2
            rw [if_pos rfl] at hu
            cases hu
            exact World.cell?_setCells_in g [I s] j _ (fun k hk => hsome1 _ (by simp at hk; omega)) 0 (by simp)
          · rw [if_neg h2] at hu
            have hjl : j - 1 < l.length := by have := (List.getElem?_eq_some_iff.1 hu).1; simpa using this
            rw [World.cell?_setCells_out g _ _ _ _ (fun _ _ => .inr (by simp; omega))]
            have := World.cell?_setCells_in g ((ints l).drop i) (i + 1) w.drew (fun k hk => hsome _ (by simp at hk; omega)) (j - 1 - i) (by simp; omega)
            rw [show i + 1 + (j - 1 - i) = j by omega] at this
            rw [this, List.getElem_drop, ← hu]
            simp only [show i + (j - 1 - i) = j - 1 by omega]
            exact (List.getElem?_eq_getElem _).symm
    · by_cases hend : i = l.length
      · subst hend
        refine (Any2.slices_Insert_int_end_grow Try.laysNm221 (some ⟨g, 0, none⟩) l.length cap vb 0 1 1 (ints l) [I s] w (by omega) hn (by omega) (by omega) (by simp) rfl (fun h => by cases h) (fun a h j u hu => by cases h; rw [add_plain', Nat.zero_add]; exact hcell j u hu) (hvs w ha) h1v).mono ?_
        rintro e w' ⟨he, hw⟩
        rw [ht3] at he hw
        subst he hw
        have hge := grownCap_ge w (l.length + 1) cap 3
        have hcm : grownCap w (l.length + 1) cap 3 ≤ maxLen := grownCap_le_maxLen w (l.length + 1) cap 3 (by simp [maxLen]; omega)
        have hnew := heap_alloc_new w.drew (.cells ((ints l ++ [I s]).toArray ++ Builtin.zeroCells (Value.int .i64 0).cells (grownCap w (l.length + 1) cap 3 - (l.length + 1))) 3)
        refine ⟨_, _, rfl, own_of_cells hb ⟨_, hnew, ?_⟩ hlen hge hcm ?_, ⟨rfl, rfl, rfl, by simp, fun k hk _ => heap_alloc_old w.drew _ hk⟩, .inr rfl⟩
        · simp [Builtin.zeroCells, Value.cells]; omega
        · intro j u hu
          have hjl : j < l.length + 1 := by have := (List.getElem?_eq_some_iff.1 hu).1; omega
          rw [cell_of_row _ w.heap.size j _ _ _ hnew, Array.getElem?_append_left (by simpa using hjl)]
          simp only [List.getElem?_toArray]
          rw [← hu]
          simp [insF, ints]
      · have hlt : i < l.length := by omega
        refine (Any2.slices_Insert_int_grow Try.laysNm221 g 0 l.length cap i vb 0 1 1 (ints l) [I s] w hlt (by omega) hn (by omega) (by omega) (by simp) rfl (fun j u hu => by rw [Nat.zero_add]; exact hcell j u hu) (hvs w ha) (ints_one _) h1v).mono ?_
        rintro e w' ⟨he, hw⟩
        rw [ht3] at he hw
        subst he hw
        have hge := grownCap_ge w (l.length + 1) cap 3
        have hcm : grownCap w (l.length + 1) cap 3 ≤ maxLen := grownCap_le_maxLen w (l.length + 1) cap 3 (by simp [maxLen]; omega)
        obtain ⟨G, hG⟩ : ∃ G, grownCap w (l.length + 1) cap 3 = G := ⟨_, rfl⟩
        rw [hG] at hge hcm ⊢
        obtain ⟨ROW, hROW⟩ : ∃ ROW, ((ints l).take i).toArray ++ Builtin.zeroCells (Value.int .i64 0).cells (l.length + 1 - i) ++ Builtin.zeroCells (Value.int .i64 0).cells (G - (l.length + 1)) = ROW := ⟨_, rfl⟩
        rw [hROW]
        have hRs : ROW.size = G := by rw [← hROW]; simp [Builtin.zeroCells, Value.cells]; omega
        have hRc : ∀ j, j < i → ROW[j]? = (ints l)[j]? := fun j hj => by
          rw [← hROW, Array.append_assoc, Array.getElem?_append_left (by simp; omega), List.getElem?_toArray, List.getElem?_take_of_lt hj]
        have h0 : ((w.alloc (.cells ROW 3)).drew).heap[w.heap.size]? = some (.cells ROW 3 (0, 0)) := heap_alloc_new w (.cells ROW 3)
        obtain ⟨cur1, hc1, hs1⟩ := setCells_block w.heap.size [I s] i _ h0
        have hc1' : (((w.alloc (.cells ROW 3)).drew).setCells w.heap.size i [I s]).drew.heap[w.heap.size]? = some (.cells cur1 3 (0, 0)) := hc1
        obtain ⟨cur2, hc2, hs2⟩ := setCells_block w.heap.size ((ints l).drop i) (i + 1) _ hc1'
        have hsome0 : ∀ j, j < G → ((w.alloc (.cells ROW 3)).drew.cell? ⟨w.heap.size, j, none⟩).isSome = true := fun j hj => by simp only [World.cell?, h0]; rw [Array.getElem?_eq_getElem (by omega)]; rfl
        have hsome1 : ∀ j, j < G → ((((w.alloc (.cells ROW 3)).drew).setCells w.heap.size i [I s]).drew.cell? ⟨w.heap.size, j, none⟩).isSome = true := fun j hj => by simp only [World.cell?, hc1']; rw [Array.getElem?_eq_getElem (by omega)]; rfl
        have hgr : w.grownBy ((((w.alloc (.cells ROW 3)).drew).setCells w.heap.size i [I s]).drew.setCells w.heap.size (i + 1) ((ints l).drop i)) (some g) := by
          have e0 : w.grownBy ((w.alloc (.cells ROW 3)).drew) (some g) := ⟨rfl, rfl, rfl, by simp, fun k hk _ => heap_alloc_old w _ hk⟩
          have e1 : (((w.alloc (.cells ROW 3)).drew).setCells w.heap.size i [I s]).grownBy (((w.alloc (.cells ROW 3)).drew).setCells w.heap.size i [I s]).drew (some g) := ⟨rfl, rfl, rfl, Nat.le_refl _, fun _ _ _ => rfl⟩
          exact grown_trans (grown_trans (grown_trans e0 (grown_setCells _ w.heap.size _ _) (fun j hj _ e => by cases e; omega)) e1 (fun _ _ h => h)) (grown_setCells _ w.heap.size _ _) (fun j hj _ e => by cases e; omega)
        refine ⟨_, _, rfl, own_of_cells hb ⟨cur2, hc2, by omega⟩ hlen hge hcm ?_, hgr, .inr rfl⟩
        intro j u hu
        rw [insF_cells _ _ _ hi] at hu
        by_cases h1 : j < i
        · rw [if_pos h1] at hu
          rw [World.cell?_setCells_out _ _ _ _ _ (fun _ _ => .inl (by show j < i + 1; omega))]
          show (((w.alloc (.cells ROW 3)).drew).setCells w.heap.size i [I s]).cell? _ = _
          rw [World.cell?_setCells_out _ _ _ _ _ (fun _ _ => .inl h1)]
          rw [cell_of_row _ w.heap.size j _ _ _ h0, hRc j h1, hu]
        · rw [if_neg h1] at hu
          by_cases h2 : j = i
          · subst h2
            rw [if_pos rfl] at hu
            cases hu
            rw [World.cell?_setCells_out _ _ _ _ _ (fun _ _ => .inl (by show j < j + 1; omega))]
            exact World.cell?_setCells_in w.heap.size [I s] j _ (fun k hk => hsome0 _ (by simp at hk; omega)) 0 (by simp)
          · rw [if_neg h2] at hu
            have hjl : j - 1 < l.length := by have := (List.getElem?_eq_some_iff.1 hu).1; simpa using this
            have := World.cell?_setCells_in w.heap.size ((ints l).drop i) (i + 1) _ (fun k hk => hsome1 _ (by simp at hk; omega)) (j - 1 - i) (by simp; omega)
            rw [show i + 1 + (j - 1 - i) = j by omega] at this
            rw [this, List.getElem_drop, ← hu]
            simp only [show i + (j - 1 - i) = j - 1 by omega]
            exact (List.getElem?_eq_getElem _).symm
end Go.Proofs.Ytcghkemfepnihaa
