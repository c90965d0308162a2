import Derived.Test.YtcghkemfepnihaaReach
import Derived.Deep.DeepCutAuto
namespace Go.Proofs.Ytcghkemfepnihaa
open Go.RowKit

/-! ### a queue of the call's own: it is cut at its head and appended to -/
structure OwnQ (w : World) (base e : Nat) (v : Value) (n : Nat) (cs : List Value) : Prop where
  len : cs.length = n
  out : ∃ g off cap, v = .slice (some ⟨g, off, none⟩) n cap ∧ base ≤ g ∧ (∃ cur, w.heap[g]? = some (.cells cur e (0, 0)) ∧ off + cap ≤ cur.size) ∧ n ≤ cap ∧ cap ≤ maxLen ∧ ∀ j u, cs[j]? = some u → w.cell? ⟨g, off + j, none⟩ = some u
theorem OwnQ.kept {w w' : World} {base e n : Nat} {v : Value} {cs : List Value} (h : OwnQ w base e v n cs) (hk : ∀ g, v.ownBlock = some g → w'.heap[g]? = w.heap[g]?) : OwnQ w' base e v n cs := by
  obtain ⟨hl, g, off, cap, rfl, hb, ⟨cur, hc, ho⟩, hn, hm, hcell⟩ := h
  have hg := hk g rfl
  refine ⟨hl, g, off, cap, rfl, hb, ⟨cur, hg.trans hc, ho⟩, hn, hm, fun j u hu => ?_⟩
  rw [World.cell?_of_block (w := w) hg]
  exact hcell j u hu
theorem OwnQ.base {w : World} {base e n : Nat} {v : Value} {cs : List Value} (h : OwnQ w base e v n cs) (g : Nat) (hg : v.ownBlock = some g) : base ≤ g ∧ g < w.heap.size := by
  obtain ⟨hl, g', off, cap, rfl, hb, ⟨cur, hc, ho⟩, _⟩ := h
  cases hg
  exact ⟨hb, (Array.getElem?_eq_some_iff.1 hc).1⟩
theorem OwnQ.alloc {w : World} {base e n : Nat} {v : Value} {cs : List Value} (h : OwnQ w base e v n cs) (o : Obj) : OwnQ (w.alloc o) base e v n cs := h.kept fun g hg => Below.heap_alloc _ _ _ (h.base g hg).2
theorem OwnQ.setBelow {w : World} {base e n : Nat} {v : Value} {cs : List Value} (h : OwnQ w base e v n cs) {a : Addr} (ha : a.block < base) (u : Value) : OwnQ (w.setCell a u) base e v n cs := h.kept fun g hg => Below.heap_setCell _ _ _ _ (by have := (h.base g hg).1; omega)
theorem OwnQ.of_arr {w : World} {g e base n : Nat} {cs : List Value} (h : Arr w g e cs) (hb : base ≤ g) (hn : cs.length = n) (hm : n ≤ maxLen) : OwnQ w base e (.slice (some ⟨g, 0, none⟩) n n) n cs :=
  ⟨hn, g, 0, n, rfl, hb, ⟨_, h.out, by simp [hn]⟩, Nat.le_refl _, hm, fun j u hu => by rw [h.cell]; simpa using hu⟩
theorem OwnQ.form {w : World} {base e n : Nat} {v : Value} {cs : List Value} (h : OwnQ w base e v n cs) : ∃ g off cap, v = .slice (some ⟨g, off, none⟩) n cap ∧ base ≤ g ∧ g < w.heap.size ∧ n ≤ cap ∧ cap ≤ 9223372036854775807 ∧ ∀ j u, cs[j]? = some u → w.cell? ⟨g, off + j, none⟩ = some u := by
  obtain ⟨hl, g, off, cap, rfl, hb, ⟨cur, hc, ho⟩, hn, hm, hcell⟩ := h
  exact ⟨g, off, cap, rfl, hb, (Array.getElem?_eq_some_iff.1 hc).1, hn, by simpa [maxLen] using hm, hcell⟩
/-- 'q = q[1:]' -/
theorem OwnQ.pop {w : World} {base e n g off cap : Nat} {c : Value} {cs : List Value} (h : OwnQ w base e (.slice (some ⟨g, off, none⟩) (n + 1) cap) (n + 1) (c :: cs)) :
    OwnQ w base e (.slice (if cap = 1 then some ⟨g, off, none⟩ else some ⟨g, off + 1, none⟩) n (cap - 1)) n cs := by
  obtain ⟨hl, g', off', cap', e1, hb, ⟨cur, hc, ho⟩, hn, hm, hcell⟩ := h
  cases e1
  have hl' : cs.length = n := by simpa using hl
  by_cases h1 : cap = 1
  · subst h1
    have h0 : n = 0 := by omega
    subst h0
    have hnil : cs = [] := List.eq_nil_of_length_eq_zero hl'
    subst hnil
    exact ⟨rfl, g, off, 0, by simp, hb, ⟨cur, hc, by omega⟩, Nat.le_refl _, by omega, fun j u hu => by simp at hu⟩
  · rw [if_neg h1]
    exact ⟨hl', g, off + 1, cap - 1, rfl, hb, ⟨cur, hc, by omega⟩, by omega, by omega, fun j u hu => by
      have := hcell (j + 1) u (by simpa using hu)
      rwa [show off + 1 + j = off + (j + 1) by omega]⟩
/-- What an append leaves. -/
theorem wpl_appendQ {P : Program} {w : World} {ops : Array Oper} {rest : List Oper} {o : Oper} {a : Act} {Q : Exit → Act → World → Prop} (hgd : o.guard = none) (s x : Operand) (t : TypeId)
    (ho : o.op = .call { callee := .builtin .append, args := #[s, x], argTypes := #[t, t] })
    {e by_ : Nat} (E : ElemT P t e 1 by_) {base : Nat} {v : Value} {n : Nat} {xs : List Value} (hs : a.eval s = v) (hown : OwnQ w base e v n xs)
    {ad : Addr} {c : Nat} {u : Value} (hx : a.eval x = .slice (some ad) 1 c) (hu : w.cell? ad = some u) (h1 : u.oneCell' = true)
    (hb : (n + 1) * by_ ≤ 140737488355328) (hn : n + 1 ≤ maxLen) (hbase : base ≤ w.heap.size)
    (h : ∀ v' w', OwnQ w' base e v' (n + 1) (xs ++ [u]) → w.grownBy w' v.ownBlock → wpList P ops Q rest (a.put o.dst v') w') : wpList P ops Q (o :: rest) a w := by
  obtain ⟨ht, ⟨i, z, hi, hz, hsz, hby, hzs⟩, hpos⟩ := E
  obtain ⟨hl, g, off, cap, rfl, hbg, ⟨cur, hc, hcs⟩, hnc, hm, hcell⟩ := hown
  have hnews : ∀ j u', [u][j]? = some u' → w.cell? (ad.add j) = some u' := fun j u' hj => by
    cases j with
    | zero => simp at hj; subst hj; simpa [Addr.add] using hu
    | succ j => simp at hj
  refine wpList_plain hgd fun K hK => ?_
  have hsm : n + 1 ≤ 9223372036854775807 := by simpa [maxLen] using hn
  have key : ∀ v' w', (Builtin.append_ #[t, t] o.type #[.slice (some ⟨g, off, none⟩) n cap, .slice (some ad) 1 c]).run P w = .ok v' w' → OwnQ w' base e v' (n + 1) (xs ++ [u]) → w.grownBy w' (some g) → o.wp P a w K Q := by
    intro v' w' hrun h2 h3
    unfold Oper.wp
    simp [execOp, ho, resolve, invoke, builtin, hs, hx, hrun, Result.andThen]
    exact hK _ _ (h v' w' h2 h3)
  by_cases hroom : n + 1 ≤ cap
  · have hg : off + n < cur.size := by omega
    have hcellg : w.cell? ⟨g, off + n, none⟩ = cur[off + n]? := by simp [World.cell?, hc]
    have hr := run_append_room_cells (P := P) w t o.type e i ht hi g off n cap ad 1 c [u] (by rw [hsz]; rfl) hnews (by simpa using h1) hroom
      (fun j hj => by have : j = 0 := (by simpa using hj); subst this; rw [hsz]; simp [World.cell?, hc, hg]) (fun j hj => by simp [World.frozen?, hc])
    rw [hsz] at hr
    refine key _ _ hr ⟨by simp [hl], g, off, cap, rfl, hbg, ⟨cur.setIfInBounds (off + n) u, ?_, by simpa using hcs⟩, hroom, hm, fun j u' hj => ?_⟩ ⟨rfl, rfl, rfl, ?_, fun k hk hne => ?_⟩
    · simp [World.setCells, World.setCell, Array.getElem?_modify, hc]
    · by_cases hjn : j < n
      · rw [List.getElem?_append_left (by omega)] at hj
        have := hcell j u' hj
        simp only [World.setCells, Nat.mul_one]
        rw [World.cell?_setCell_other _ _ _ _ (by intro e; have h9 : off + n = off + j := congrArg Addr.off e; omega)]
        exact this
      · have : j = n := by
          have := (List.getElem?_eq_some_iff.1 hj).1
          simp at this; omega
        subst this
        rw [List.getElem?_append_right (by omega), hl] at hj
        simp at hj
        subst hj
        simp only [World.setCells, Nat.mul_one]
        exact World.cell?_setCell_same _ _ _ (u := cur[off + j]) (by rw [hcellg]; exact Array.getElem?_eq_getElem hg)
    · simp [World.setCells, World.setCell]
    · simp only [World.setCells]
      exact Below.heap_setCell _ _ _ _ (fun e => hne (by rw [e]))
  · have hr := run_append_grow (P := P) w t o.type e i z ht hi hz ⟨g, off, none⟩ n cap xs (by rw [hsz, hl]; omega) (fun j v hj => by rw [add_plain']; exact hcell j v hj) ad 1 c [u] (by rw [hsz]; rfl) hnews (by omega) (by omega)
      (growslice_fits (by omega) (by rw [hby]; exact hb))
    have hge := grownCap_ge w (n + 1) cap e
    have hcm : grownCap w (n + 1) cap e ≤ maxLen := grownCap_le_maxLen w (n + 1) cap e hn
    refine key _ _ hr ⟨by simp [hl], w.heap.size, 0, _, rfl, hbase, ⟨_, heap_alloc_new w.drew _, ?_⟩, hge, hcm, fun j u' hj => ?_⟩ ⟨rfl, rfl, rfl, by simp, fun k hk _ => heap_alloc_old w.drew _ k hk⟩
    · simp only [Array.size_append, List.size_toArray, size_zeroCells, hzs, hl]
      simp; omega
    · have hb2 := heap_alloc_new w.drew (.cells (xs.toArray ++ [u].toArray ++ Builtin.zeroCells z.cells (grownCap w (n + 1) cap e - (n + 1))) e)
      have hb3 := cell_of_row _ w.heap.size (0 + j) _ _ _ hb2
      rw [hb3, Nat.zero_add]
      rw [Array.getElem?_append_left (by have := (List.getElem?_eq_some_iff.1 hj).1; simpa using this)]
      simpa using hj

/-! ### the plain part: distances by a queue -/
/-- Between the rounds: the nodes in the queue are met and stand in their order; what is met and not in the queue is done. -/
structure Bfs (E : List (Int × Int)) (S : List Int) (n : Nat) (d : List Int) (q : List Nat) : Prop where
  len : d.length = n
  val : ∀ v : Nat, v < n → d.getD v 0 = -1 ∨ (∃ k : Nat, d.getD v 0 = k ∧ Rn E S k v ∧ ∀ j, j < k → ¬ Rn E S j v)
  inq : ∀ u ∈ q, u < n ∧ 0 ≤ d.getD u 0
  done : ∀ u : Nat, u < n → 0 ≤ d.getD u 0 → u ∉ q → ∀ v : Int, ((u : Int), v) ∈ E → 0 ≤ d.getD v.toNat 0
  sorted : q.Pairwise fun a b => d.getD a 0 ≤ d.getD b 0
  near : ∀ a ∈ q, ∀ b ∈ q, d.getD b 0 ≤ d.getD a 0 + 1
  start : ∀ v ∈ S, 0 ≤ d.getD v.toNat 0
/-- In a round: u is the queue's first; of its neighbours the first i are met. -/
structure Bfi (E : List (Int × Int)) (S : List Int) (n : Nat) (g : List Int) (d : List Int) (u : Nat) (q : List Nat) (i : Nat) : Prop where
  base : Bfs E S n d (u :: q)
  met : ∀ j, j < i → ∀ v, g[j]? = some v → 0 ≤ d.getD v.toNat 0
theorem bfs_met {E : List (Int × Int)} {S : List Int} {n : Nat} {d : List Int} {u : Nat} {q : List Nat} (F : Fits n E S) (h : Bfs E S n d (u :: q)) :
    ∀ (j : Nat) (v : Nat), v < n → (j : Int) ≤ d.getD u 0 → Rn E S j v → 0 ≤ d.getD v 0 := by
  intro j
  induction j with
  | zero => intro v hv _ hr; simpa using h.start v hr
  | succ j ih =>
    rintro v hv hj ⟨x, hx, hr⟩
    obtain ⟨⟨x0, x1⟩, _⟩ := F.e _ hx
    simp at x0 x1
    have c1 : ((x.toNat : Nat) : Int) = x := by omega
    have hxn : x.toNat < n := by omega
    have hm := ih x.toNat hxn (by omega) (by rw [c1]; exact hr)
    have hxd : d.getD x.toNat 0 ≤ j := by
      rcases h.val x.toNat hxn with h1 | ⟨k, h1, _, h3⟩
      · omega
      · rcases Nat.lt_or_ge j k with hl | hl
        · exact absurd (by rw [c1]; exact hr) (h3 j hl)
        · omega
    have hnq : x.toNat ∉ u :: q := by
      intro hmem
      rcases List.mem_cons.1 hmem with e | e
      · rw [e] at hxd; omega
      · have := (List.pairwise_cons.1 h.sorted).1 _ e
        omega
    have := h.done x.toNat hxn hm hnq v (by rw [c1]; exact hx)
    simpa using this
theorem bfi_hit {E : List (Int × Int)} {S : List Int} {n : Nat} {g d : List Int} {u v : Nat} {q : List Nat} {i : Nat} (F : Fits n E S) (h : Bfi E S n g d u q i) (hi : g[i]? = some (v : Int)) (hE : ((u : Int), (v : Int)) ∈ E)
    (hd : d.getD v 0 < 0) : Bfi E S n g (d.set v (d.getD u 0 + 1)) u (q ++ [v]) (i + 1) := by
  have hvn : v < n := by have := (F.e _ hE).2.2; simp at this; omega
  have hvl : v < d.length := by rw [h.base.len]; exact hvn
  obtain ⟨hun, hu0⟩ := h.base.inq u (by simp)
  have huv : u ≠ v := fun e => by subst e; omega
  have gd : ∀ x : Nat, (d.set v (d.getD u 0 + 1)).getD x 0 = if x = v then d.getD u 0 + 1 else d.getD x 0 := fun x => getD_set _ _ _ _ hvl
  have up : ∀ x : Nat, 0 ≤ d.getD x 0 → 0 ≤ (d.set v (d.getD u 0 + 1)).getD x 0 := fun x hx => by rw [gd]; split <;> omega
  have old : ∀ x : Nat, 0 ≤ d.getD x 0 → (d.set v (d.getD u 0 + 1)).getD x 0 = d.getD x 0 := fun x hx => by rw [gd, if_neg (fun e => by subst e; omega)]
  have qold : ∀ x ∈ u :: q, (d.set v (d.getD u 0 + 1)).getD x 0 = d.getD x 0 := fun x hx => old x (h.base.inq x hx).2
  have hnear := h.base.near
  have hsort := h.base.sorted
  refine ⟨⟨by simpa using h.base.len, fun x hx => ?_, fun x hx => ?_, fun x hx hx0 hxq y hy => ?_, ?_, fun a ha b hb => ?_, fun x hx => up _ (h.base.start x hx)⟩, fun j hj x hx => ?_⟩
  · rw [gd]
    by_cases e : x = v
    · subst e
      rw [if_pos rfl]
      right
      rcases h.base.val u hun with h1 | ⟨k, h1, h2, h3⟩
      · omega
      · refine ⟨k + 1, by omega, ⟨_, hE, h2⟩, fun j hj hr => ?_⟩
        have := bfs_met F h.base j x hvn (by omega) hr
        omega
    · rw [if_neg e]; exact h.base.val x hx
  · rw [← List.cons_append] at hx
    rcases List.mem_append.1 hx with hx | hx
    · exact ⟨(h.base.inq x hx).1, up x (h.base.inq x hx).2⟩
    · simp at hx
      subst hx
      exact ⟨hvn, by rw [gd, if_pos rfl]; omega⟩
  · rw [← List.cons_append] at hxq
    have hxv : x ≠ v := fun e => hxq (List.mem_append.2 (.inr (by simp [e])))
    have hxq' : x ∉ u :: q := fun e => hxq (List.mem_append.2 (.inl e))
    rw [gd, if_neg hxv] at hx0
    exact up _ (h.base.done x hx hx0 hxq' y hy)
  · rw [← List.cons_append, List.pairwise_append]
    refine ⟨hsort.imp_of_mem (fun ha hb hab => by rw [qold _ ha, qold _ hb]; exact hab), by simp, fun a ha b hb => ?_⟩
    simp at hb
    subst hb
    rw [qold _ ha, gd, if_pos rfl]
    exact hnear u (by simp) a ha
  · rw [← List.cons_append] at ha hb
    rcases List.mem_append.1 ha with ha1 | ha1 <;> rcases List.mem_append.1 hb with hb1 | hb1
    · rw [qold _ ha1, qold _ hb1]; exact hnear a ha1 b hb1
    · have hb2 : b = v := by simpa using hb1
      rw [hb2, qold _ ha1, gd, if_pos rfl]
      rcases List.mem_cons.1 ha1 with e | e
      · subst e; omega
      · have := (List.pairwise_cons.1 hsort).1 a e; omega
    · have ha2 : a = v := by simpa using ha1
      rw [ha2, qold _ hb1, gd, if_pos rfl]
      have := hnear u (by simp) b hb1
      omega
    · have ha2 : a = v := by simpa using ha1
      have hb2 : b = v := by simpa using hb1
      rw [ha2, hb2]
      omega
  · rcases Nat.lt_succ_iff_lt_or_eq.1 hj with hj | hj
    · exact up _ (h.met j hj x hx)
    · subst hj
      rw [hi] at hx
      cases hx
      rw [Int.toNat_natCast, gd, if_pos rfl]
      omega
theorem bfi_miss {E : List (Int × Int)} {S : List Int} {n : Nat} {g d : List Int} {u v : Nat} {q : List Nat} {i : Nat} (h : Bfi E S n g d u q i) (hi : g[i]? = some (v : Int)) (hd : ¬ d.getD v 0 < 0) : Bfi E S n g d u q (i + 1) :=
  ⟨h.base, fun j hj x hx => by
    rcases Nat.lt_succ_iff_lt_or_eq.1 hj with hj | hj
    · exact h.met j hj x hx
    · subst hj
      rw [hi] at hx
      cases hx
      rw [Int.toNat_natCast]
      omega⟩
theorem bfi_end {E : List (Int × Int)} {S : List Int} {n : Nat} {g d : List Int} {u : Nat} {q : List Nat} (h : Bfi E S n g d u q g.length) (hg : ∀ v : Int, ((u : Int), v) ∈ E → v ∈ g) : Bfs E S n d q := by
  have hb := h.base
  refine ⟨hb.len, hb.val, fun x hx => hb.inq x (by simp [hx]), fun x hx hx0 hxq y hy => ?_, (List.pairwise_cons.1 hb.sorted).2, fun a ha b hb' => hb.near a (by simp [ha]) b (by simp [hb']), hb.start⟩
  by_cases e : x = u
  · subst e
    obtain ⟨j, hj⟩ := List.getElem?_of_mem (hg y hy)
    exact h.met j (List.getElem?_eq_some_iff.1 hj).1 y hj
  · exact hb.done x hx hx0 (by simp [e, hxq]) y hy
theorem bfs_end {E : List (Int × Int)} {S : List Int} {n : Nat} {d : List Int} (F : Fits n E S) (h : Bfs E S n d []) : IsDist E S n d := by
  have all : ∀ k (v : Nat), v < n → Rn E S k v → 0 ≤ d.getD v 0 := by
    intro k
    induction k with
    | zero => intro v hv hr; simpa using h.start v hr
    | succ k ih =>
      rintro v hv ⟨x, hx, hr⟩
      obtain ⟨⟨x0, x1⟩, _⟩ := F.e _ hx
      simp at x0 x1
      have c1 : ((x.toNat : Nat) : Int) = x := by omega
      have := h.done x.toNat (by omega) (ih x.toNat (by omega) (by rw [c1]; exact hr)) (by simp) v (by rw [c1]; exact hx)
      simpa using this
  refine ⟨h.len, fun v hv => ?_⟩
  rcases h.val v hv with h1 | h1
  · exact .inl ⟨h1, fun k hk => by have := all k v hv hk; omega⟩
  · exact .inr h1
theorem bfs_start {E : List (Int × Int)} {n s : Nat} (hs : s < n) : Bfs E [(s : Int)] n ((List.replicate n (-1)).set s 0) [s] := by
  have gd : ∀ x : Nat, x < n → ((List.replicate n (-1 : Int)).set s 0).getD x 0 = if x = s then 0 else -1 := fun x hx => by
    rw [getD_set _ _ _ _ (by simpa using hs)]
    split
    · rfl
    · simp [List.getD_eq_getElem?_getD, hx]
  refine ⟨by simp, fun v hv => ?_, fun u hu => ?_, fun u hu h0 hq => ?_, by simp, fun a ha b hb => ?_, fun v hv => ?_⟩
  · rw [gd v hv]
    by_cases e : v = s
    · subst e; rw [if_pos rfl]; exact .inr ⟨0, rfl, by simp [Rn], fun j hj => absurd hj (Nat.not_lt_zero _)⟩
    · rw [if_neg e]; exact .inl rfl
  · simp at hu; subst hu; exact ⟨hs, by rw [gd u hs, if_pos rfl]; omega⟩
  · rw [gd u hu, if_neg (by simpa using hq)] at h0; omega
  · simp at ha hb; subst ha hb; omega
  · simp at hv; subst hv; rw [Int.toNat_natCast, gd s hs, if_pos rfl]; omega
end Go.Proofs.Ytcghkemfepnihaa
