import Derived.Test.YtakpikoffbgjfaaHK
namespace Go.Proofs.Ytakpikoffbgjfaa
open Go.RowKit Go.Maps

def TQ.has (q : TQ) (k : Nat) : Prop := q.c.ownBlock = some k ∨ q.k.ownBlock = some k ∨ q.mb = some k
theorem ThW.inF {w : World} {F : Nat → Prop} {t : Th} {q : TQ} (h : ThW w F t q) {k : Nat} (hk : q.has k) : F k := by
  rcases hk with hk | hk | hk
  · exact h.cellsF k hk
  · exact h.keysF k hk
  · rcases h.map with ⟨_, e⟩ | ⟨_, b, D, e, hF, _⟩
    · rw [TQ.mb, e] at hk; cases hk
    · rw [TQ.mb, e] at hk; cases hk; exact hF
/-- What block it is: values, keys or a map. -/
theorem ThW.kinds {w : World} {F : Nat → Prop} {t : Th} {q : TQ} (h : ThW w F t q) (k : Nat) :
    (q.c.ownBlock = some k → ∃ cur, w.heap[k]? = some (.cells cur 30 (0, 0))) ∧ (q.k.ownBlock = some k → ∃ cur, w.heap[k]? = some (.cells cur 2 (0, 0))) ∧ (q.mb = some k → ∃ es c, w.heap[k]? = some (.map es c)) :=
  ⟨fun e => own_type h.cells e, fun e => own_type h.keys e, fun e => mb_block h e⟩
/-- Two things share no block. -/
theorem MemW.noshare {w : World} {F : Nat → Prop} {p : Nat} {M : HM} {tv fv : Value} {qs : List TQ} (h : MemW w F p M tv fv qs) {i j : Nat} {q r : TQ} (hq : qs[i]? = some q) (hr : qs[j]? = some r) (hij : i ≠ j) : ∀ k, q.has k → ¬ r.has k := by
  have hi : i < M.things.length := by rw [← h.len]; exact (List.getElem?_eq_some_iff.1 hq).1
  have hj : j < M.things.length := by rw [← h.len]; exact (List.getElem?_eq_some_iff.1 hr).1
  have tq := h.each i _ q (List.getElem?_eq_getElem hi) hq
  have tr := h.each j _ r (List.getElem?_eq_getElem hj) hr
  have ha := h.apart i j q r hq hr hij
  intro k h1 h2
  obtain ⟨a1, a2, a3⟩ := tq.kinds k
  obtain ⟨b1, b2, b3⟩ := tr.kinds k
  rcases h1 with h1 | h1 | h1 <;> rcases h2 with h2 | h2 | h2
  · exact ha.1 k h1 h2
  · obtain ⟨_, e1⟩ := a1 h1; obtain ⟨_, e2⟩ := b2 h2; rw [e1] at e2; cases e2
  · obtain ⟨_, e1⟩ := a1 h1; obtain ⟨_, _, e2⟩ := b3 h2; rw [e1] at e2; cases e2
  · obtain ⟨_, e1⟩ := a2 h1; obtain ⟨_, e2⟩ := b1 h2; rw [e1] at e2; cases e2
  · exact ha.2.1 k h1 h2
  · obtain ⟨_, e1⟩ := a2 h1; obtain ⟨_, _, e2⟩ := b3 h2; rw [e1] at e2; cases e2
  · obtain ⟨_, _, e1⟩ := a3 h1; obtain ⟨_, e2⟩ := b1 h2; rw [e1] at e2; cases e2
  · obtain ⟨_, _, e1⟩ := a3 h1; obtain ⟨_, e2⟩ := b2 h2; rw [e1] at e2; cases e2
  · exact ha.2.2 k h1 h2
/-- One thing is changed. -/
theorem MemW.change {w w' : World} {F F' : Nat → Prop} {p j g cap : Nat} {M : HM} {fv : Value} {qs : List TQ} {t t' : Th} {q q' : TQ} (h : MemW w F p M (.slice (some ⟨g, 0, none⟩) M.things.length cap) fv qs)
    (hj : M.things[j]? = some t) (hq : qs[j]? = some q) (hT : ThW w' F' t' q')
    (hb : ∀ k, F k → k ≠ g → ¬ q.has k → w'.heap[k]? = w.heap[k]?) (hrow : w'.ownsRow 0 64 4 (.slice (some ⟨g, 0, none⟩) M.things.length cap) qs.length (tqs (qs.set j q')))
    (hF : ∀ k, F k → F' k) (hlt : ∀ k, F' k → k < w'.heap.size)
    (hq1 : ∀ k, q'.c.ownBlock = some k → q.c.ownBlock = some k ∨ w.heap.size ≤ k) (hq2 : ∀ k, q'.k.ownBlock = some k → q.k.ownBlock = some k ∨ w.heap.size ≤ k) (hq3 : ∀ k, q'.mb = some k → q.mb = some k ∨ w.heap.size ≤ k) :
    MemW w' F' p { M with things := M.things.set j t' } (.slice (some ⟨g, 0, none⟩) M.things.length cap) fv (qs.set j q') := by
  have hjq : j < qs.length := (List.getElem?_eq_some_iff.1 hq).1
  have hjm : j < M.things.length := (List.getElem?_eq_some_iff.1 hj).1
  have tq := h.each j t q hj hq
  obtain ⟨gc, hgc⟩ := own_type h.things (k := g) rfl
  have hnot : ∀ (k e : Nat) (c : Array Value) (fr : Nat × Nat), w.heap[k]? = some (.cells c e fr) → e ≠ 64 → e ≠ 30 → e ≠ 2 → k ≠ g ∧ ¬ q.has k := fun k e c fr hk h1 h2 h3 => by
    refine ⟨ne_type hk hgc h1, fun hh => ?_⟩
    obtain ⟨a1, a2, a3⟩ := tq.kinds k
    rcases hh with hh | hh | hh
    · obtain ⟨_, e1⟩ := a1 hh; rw [hk] at e1; cases e1; exact h2 rfl
    · obtain ⟨_, e1⟩ := a2 hh; rw [hk] at e1; cases e1; exact h3 rfl
    · obtain ⟨_, _, e1⟩ := a3 hh; rw [hk] at e1; cases e1
  have hp := hnot p 60 _ _ h.arr.out (by decide) (by decide) (by decide)
  refine ⟨hlt, hF p h.fp, h.arr.block (hb p h.fp hp.1 hp.2), by simp [h.len], ?_, fun k e => hF k (h.thingsF k e), own_kept h.frames (fun k e => ?_), fun k e => hF k (h.framesF k e), fun i t1 q1 ht1 hq1' => ?_, fun i i2 q1 r1 h1 h2 hii => ?_⟩
  · simpa using hrow
  · obtain ⟨cur, hc⟩ := own_type h.frames e
    have := hnot k 3 _ _ hc (by decide) (by decide) (by decide)
    exact hb k (h.framesF k e) this.1 this.2
  · by_cases hi : i = j
    · subst hi
      rw [List.getElem?_set_self (by simpa using hjm)] at ht1
      rw [List.getElem?_set_self hjq] at hq1'
      cases ht1; cases hq1'
      exact hT
    · simp only [] at ht1
      rw [List.getElem?_set_ne (fun e => hi e.symm)] at ht1
      rw [List.getElem?_set_ne (fun e => hi e.symm)] at hq1'
      have hth := h.each i t1 q1 ht1 hq1'
      refine hth.kept (fun k hk he => hb k hk (hth.off hgc (by decide) (by decide) k he) (h.noshare hq1' hq hi k he)) hF
  · have old : ∀ (i : Nat) (q1 : TQ), qs[i]? = some q1 → ∀ k, q1.has k → k < w.heap.size := fun i q1 hq' k hk => by
      have hi : i < M.things.length := by rw [← h.len]; exact (List.getElem?_eq_some_iff.1 hq').1
      exact h.lt k ((h.each i _ q1 (List.getElem?_eq_getElem hi) hq').inF hk)
    by_cases hi : i = j
    · subst hi
      rw [List.getElem?_set_self hjq] at h1
      cases h1
      rw [List.getElem?_set_ne hii] at h2
      have ha := h.apart i i2 q r1 hq h2 hii
      refine ⟨fun k e1 e2 => ?_, fun k e1 e2 => ?_, fun k e1 e2 => ?_⟩
      · rcases hq1 k e1 with e | e
        · exact ha.1 k e e2
        · have := old i2 r1 h2 k (.inl e2); omega
      · rcases hq2 k e1 with e | e
        · exact ha.2.1 k e e2
        · have := old i2 r1 h2 k (.inr (.inl e2)); omega
      · rcases hq3 k e1 with e | e
        · exact ha.2.2 k e e2
        · have := old i2 r1 h2 k (.inr (.inr e2)); omega
    · rw [List.getElem?_set_ne (fun e => hi e.symm)] at h1
      by_cases hi2 : i2 = j
      · subst hi2
        rw [List.getElem?_set_self hjq] at h2
        cases h2
        have ha := h.apart i i2 q1 q h1 hq hii
        refine ⟨fun k e1 e2 => ?_, fun k e1 e2 => ?_, fun k e1 e2 => ?_⟩
        · rcases hq1 k e2 with e | e
          · exact ha.1 k e1 e
          · have := old i q1 h1 k (.inl e1); omega
        · rcases hq2 k e2 with e | e
          · exact ha.2.1 k e1 e
          · have := old i q1 h1 k (.inr (.inl e1)); omega
        · rcases hq3 k e2 with e | e
          · exact ha.2.2 k e1 e
          · have := old i q1 h1 k (.inr (.inr e1)); omega
      · rw [List.getElem?_set_ne (fun e => hi2 e.symm)] at h2
        exact h.apart i i2 q1 r1 h1 h2 hii
theorem vvs_set (l : List VV) : ∀ (k : Nat) (v : VV), k < l.length → ((((vvs l).set (k * 3) (I v.n)).set (k * 3 + 1) (.string v.s)).set (k * 3 + 2) (I v.r)) = vvs (l.set k v) := by
  induction l with
  | nil => intro k v h; simp at h
  | cons x l ih =>
    intro k v h
    cases k with
    | zero => simp [vvs, VV.cs]
    | succ k =>
      have := ih k v (by simpa using h)
      rw [show (k + 1) * 3 = k * 3 + 1 + 1 + 1 by omega]
      simpa [vvs, VV.cs] using this
/-- A call that changes a memory. -/
def MemRes (w : World) (F : Nat → Prop) (p : Nat) (X : HM) (v : Value) (e : Ending) (w' : World) : Prop :=
  ∃ F' tv' fv' qs', e = .returned v ∧ MemW w' F' p X tv' fv' qs' ∧ Chg F w w' ∧ ∀ k, F' k → F k ∨ w.heap.size ≤ k
def setF (M : HM) (r i : Int) (v : VV) : HM × Int :=
  if valF M r i ≠ 0 then (M, valF M r i) else match M.things[(r - 1).toNat]? with
  | none => (M, 6)
  | some t => ({ M with things := M.things.set (r - 1).toNat { t with vals := t.vals.set i.toNat v } }, 0)
theorem set_mem {W : World} {F : Nat → Prop} {p j g cap k cb : Nat} {M : HM} {fv : Value} {qs : List TQ} {t : Th} {x : TQ} (v : VV) (h : MemW W F p M (.slice (some ⟨g, 0, none⟩) M.things.length cap) fv qs)
    (ht : M.things[j]? = some t) (hq : qs[j]? = some x) (hcb : x.c.ownBlock = some cb) (hk : k < t.vals.length) :
    MemW (((W.setCell ⟨cb, k * 3, none⟩ (I v.n)).setCell ⟨cb, k * 3 + 1, none⟩ (.string v.s)).setCell ⟨cb, k * 3 + 2, none⟩ (I v.r)) F p { M with things := M.things.set j { t with vals := t.vals.set k v } } (.slice (some ⟨g, 0, none⟩) M.things.length cap) fv qs := by
  have hT := h.each j t x ht hq
  obtain ⟨Ac, cc, ec, _, _⟩ := (Rd.of_own hT.cells).form
  obtain ⟨cb', cap', e2, _, _⟩ := hT.cells.form (by omega)
  have hxc : x.c = .slice (some ⟨cb, 0, none⟩) t.vals.length cap' := by rw [e2] at hcb; cases hcb; exact e2
  have hown := hT.cells
  rw [hxc] at hown
  have hs := ((((hown.stored (k * 3) (I v.n)).1).stored (k * 3 + 1) (.string v.s)).1.stored (k * 3 + 2) (I v.r)).1
  rw [vvs_set _ _ _ hk] at hs
  have hbk : ∀ b, b ≠ cb → (((W.setCell ⟨cb, k * 3, none⟩ (I v.n)).setCell ⟨cb, k * 3 + 1, none⟩ (.string v.s)).setCell ⟨cb, k * 3 + 2, none⟩ (I v.r)).heap[b]? = W.heap[b]? := fun b hb =>
    (Below.heap_setCell _ _ _ _ hb).trans ((Below.heap_setCell _ _ _ _ hb).trans (Below.heap_setCell _ _ _ _ hb))
  obtain ⟨cur, hcur⟩ := own_type hT.cells hcb
  obtain ⟨gc, hgc⟩ := own_type h.things (k := g) rfl
  have hqs : qs.set j x = qs := by
    have hjq : j < qs.length := (List.getElem?_eq_some_iff.1 hq).1
    have := List.getElem_of_getElem? hq
    obtain ⟨_, e⟩ := this
    rw [← e]; simp
  have hk1 : ∀ b, x.k.ownBlock = some b → b ≠ cb := fun b hb => by obtain ⟨c2, h2⟩ := own_type hT.keys hb; exact ne_type h2 hcur (by decide)
  have hT' : ThW (((W.setCell ⟨cb, k * 3, none⟩ (I v.n)).setCell ⟨cb, k * 3 + 1, none⟩ (.string v.s)).setCell ⟨cb, k * 3 + 2, none⟩ (I v.r)) F { t with vals := t.vals.set k v } x := by
    refine ⟨hT.f, ?_, hT.cellsF, own_kept hT.keys (fun b hb => hbk b (hk1 b hb)), hT.keysF, ?_⟩
    · rw [hxc]
      simpa using hs
    · rcases hT.map with hm | ⟨a1, b, D, a2, a3, a4, a5⟩
      · exact .inl hm
      · refine .inr ⟨a1, b, D, a2, a3, map_kept a4 (hbk b ?_), a5⟩
        obtain ⟨es, cl, hmb⟩ := map_block a4
        rintro rfl
        rw [hcur] at hmb; cases hmb
  have := MemW.change (w' := ((W.setCell ⟨cb, k * 3, none⟩ (I v.n)).setCell ⟨cb, k * 3 + 1, none⟩ (.string v.s)).setCell ⟨cb, k * 3 + 2, none⟩ (I v.r)) (F' := F) h ht hq hT' (fun b _ _ hn => hbk b (fun e => hn (.inl (e ▸ hcb)))) (by
      rw [hqs]
      exact own_kept h.things (fun b hb => hbk b (by cases hb; exact ne_type hgc hcur (by decide)))) (fun _ h => h) (fun b hb => by simpa using h.lt b hb) (fun b hb => .inl hb) (fun b hb => .inl hb) (fun b hb => .inl hb)
  rwa [hqs] at this
set_option maxHeartbeats 4000000 in
set_option maxRecDepth 100000 in
theorem set_any (w : World) (F : Nat → Prop) (p : Nat) (M : HM) (tv fv : Value) (qs : List TQ) (r i : Int) (v : VV) (h : MemW w F p M tv fv qs) (hs : M.frames.Pairwise (· < ·)) (hfl : M.frames.length ≤ 1000000000) (hth : M.things.length ≤ 1000000000) :
    Calls Try.prog 37 #[P0 p, I r, I i, .agg #[I v.n, .string v.s, I v.r]] w (MemRes w F p (setF M r i v).1 (I (setF M r i v).2)) := by
  have HV := Lib.hid (value_any (w.alloc (.cells #[I v.n, .string v.s, I v.r] 30)) F p M tv fv qs r i (h.below (below_alloc w _)) hs hfl hth)
  have HH := Lib.hid (h.below (below_alloc w (.cells #[I v.n, .string v.s, I v.r] 30)))
  clear h hs
  by_cases hw : valF M r i = 0
  · have HW := Lib.hid hw
    clear hw
    go_enter Try.func37, Try.ntmps37
    go_wp2_with fail
    refine HV.out.mono ?_
    rintro e w1 ⟨q, ptr, rfl, rfl, _, hp⟩
    obtain ⟨j, k, cb, t, x, rfl, rfl, htt, hq, hcb, hk, rfl⟩ := hp HW.out
    have hT := HH.out.each j t x htt hq
    obtain ⟨u, hu⟩ : ∃ u, t.vals[k]? = some u := ⟨_, List.getElem?_eq_getElem hk⟩
    obtain ⟨a0, a1, a2⟩ := vvs_at t.vals k u hu
    obtain ⟨g, cap, x', etv, hn1, hn2, hgl, hq', hT', _⟩ := HH.out.thing htt
    have hset : setF M ((j : Int) + 1) k v = ({ M with things := M.things.set j { t with vals := t.vals.set k v } }, 0) := by
      unfold setF; rw [if_neg (by rw [HW.out]; simp), show ((j : Int) + 1 - 1).toNat = j by omega, htt]; rfl
    subst etv
    have hmem := (set_mem v (HH.out.drewN q) htt hq hcb hk)
    obtain ⟨W, hW⟩ : ∃ W, w.alloc (.cells #[.int .i64 v.n, .string v.s, .int .i64 v.r] 30) = W := ⟨_, rfl⟩
    rw [hW] at hmem
    have hA : Arr W w.heap.size 30 [I v.n, .string v.s, I v.r] := by rw [← hW]; exact Arr.new w 30 _
    have hB : Chg F w W := by rw [← hW]; exact (Chg.refl F w).alloc _
    have hFcb : F cb := hT.cellsF cb hcb
    have cl : ∀ (n : Nat) (u : Value), (vvs t.vals)[n]? = some u → (W.drewN q).cell? ⟨cb, n, none⟩ = some u := fun n u hu => by
      have := hT.cells.cells (g := cb) hcb n u hu
      rw [add_plain', Nat.zero_add] at this
      rw [← hW]
      exact this
    have b0 := cl _ _ a0
    have b1 := cl _ _ a1
    have b2 := cl _ _ a2
    obtain ⟨cur, hcur⟩ := own_type hT.cells hcb
    have fz : ∀ n, (W.drewN q).frozen? ⟨cb, n, none⟩ = false := fun n => by
      rw [← hW]
      simp [World.frozen?, hcur]
    have g0 := fz (k * 3)
    have g1 := fz (k * 3 + 1)
    have g2 := fz (k * 3 + 2)
    have x0 : (W.drewN q).cell? ⟨w.heap.size, 0, none⟩ = some (I v.n) := hA.cell 0
    have x1 : (W.drewN q).cell? ⟨w.heap.size, 1, none⟩ = some (.string v.s) := hA.cell 1
    have x2 : (W.drewN q).cell? ⟨w.heap.size, 2, none⟩ = some (I v.r) := hA.cell 2
    rw [HW.out, hW]
    have HM := Lib.hid hmem
    have HB := Lib.hid hB
    have HS := Lib.hid hset
    clear cl a0 a1 a2 hp htt hq hcb hA hB hW hT hu hq' hT' hcur fz hmem hset
    go_wp2
    go_ret
    refine ⟨F, _, fv, qs, by rw [HS.out]; rfl, by rw [HS.out]; exact HM.out, (((HB.out.drewN q).set (a := ⟨cb, _, none⟩) hFcb _).set (a := ⟨cb, _, none⟩) hFcb _).set (a := ⟨cb, _, none⟩) hFcb _, fun b hb => .inl hb⟩
  · obtain ⟨y, hy⟩ : ∃ y, valF M r i = y := ⟨_, rfl⟩
    have hd : (y == 0) = false := by rw [← hy]; simpa using hw
    have hset : setF M r i v = (M, y) := by unfold setF; rw [if_pos hw, hy]
    have HS := Lib.hid hset
    have HY := Lib.hid hy
    have HW := Lib.hid hw
    clear hw hy hset
    go_enter Try.func37, Try.ntmps37
    go_wp2_with fail
    refine HV.out.mono ?_
    rintro e w1 ⟨q, ptr, rfl, rfl, hp, _⟩
    rw [hp HW.out, HY.out]
    clear hp
    go_wp2
    go_ret
    exact ⟨F, tv, fv, qs, by rw [HS.out]; rfl, by rw [HS.out]; exact HH.out.drewN q, ((Chg.refl F w).alloc _).drewN q, fun b hb => .inl hb⟩
end Go.Proofs.Ytakpikoffbgjfaa
