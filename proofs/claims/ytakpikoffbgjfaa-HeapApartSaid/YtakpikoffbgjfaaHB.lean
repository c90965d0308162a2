import Derived.Test.YtakpikoffbgjfaaHA
namespace Go.Proofs.Ytakpikoffbgjfaa
open Go.RowKit

theorem MemW.drew {w : World} {F : Nat → Prop} {p : Nat} {M : HM} {tv fv : Value} {qs : List TQ} (h : MemW w F p M tv fv qs) : MemW w.drew F p M tv fv qs := h.kept (fun _ _ => rfl) (Nat.le_refl _)
theorem own_pop {w : World} {base e g n cap : Nat} {xs : List Value} {x : Value} (h : w.ownsRow base e 1 (.slice (some ⟨g, 0, none⟩) (n + 1) cap) (n + 1) (xs ++ [x])) : w.ownsRow base e 1 (.slice (some ⟨g, 0, none⟩) n cap) n xs := by
  have hl := h.1
  simp at hl
  rcases h.2 with ⟨h2, _⟩ | ⟨g', cap', cur, h2, hb, hh, hn, hm, hs, ht⟩
  · cases h2
  · cases h2
    refine ⟨by simpa using hl, .inr ⟨g, cap, cur, rfl, hb, hh, by omega, hm, hs, ?_⟩⟩
    have : (cur.toList.take ((n + 1) * 1)).take n = (xs ++ [x]).take n := by rw [ht]
    rw [List.take_take, List.take_append_of_le_length (by omega), List.take_of_length_le (l := xs) (by omega)] at this
    rw [← this]
    congr 1
    omega
def M0 (limit : Int) : HM := ⟨[], [1], 1, min (max limit 0) 16777216, 0, 0⟩
def NewRes (limit : Int) (w : World) (e : Ending) (w' : World) : Prop := ∃ p F tv fv, e = .returned (P0 p) ∧ MemW w' F p (M0 limit) tv fv [] ∧ Below w.heap.size w w' ∧ ∀ k, F k → w.heap.size ≤ k
theorem new_res (w : World) (limit x : Int) (hx : x = min (max limit 0) 16777216) : NewRes limit w (.returned (P0 (w.heap.size + 1))) ((w.alloc (.cells #[I 1] 3)).alloc (.cells #[.slice none 0 0, .slice (some ⟨w.heap.size, 0, none⟩) 1 1, I 1, I x, I 0, I 0] 60)) := by
  subst hx
  have hb : Below w.heap.size w ((w.alloc (.cells #[I 1] 3)).alloc (.cells #[.slice none 0 0, .slice (some ⟨w.heap.size, 0, none⟩) 1 1, I 1, I (min (max limit 0) 16777216), I 0, I 0] 60)) := ((Below.refl _ w).alloc (Nat.le_refl _) _).alloc (by simp) _
  have hA := Arr.new (w.alloc (.cells #[I 1] 3)) 60 #[.slice none 0 0, .slice (some ⟨w.heap.size, 0, none⟩) 1 1, I 1, I (min (max limit 0) 16777216), I 0, I 0]
  have hF := (Arr.new w 3 #[I 1]).alloc (.cells #[.slice none 0 0, .slice (some ⟨w.heap.size, 0, none⟩) 1 1, I 1, I (min (max limit 0) 16777216), I 0, I 0] 60)
  simp only [World.size_alloc] at hA
  refine ⟨_, fun k => k = w.heap.size + 1 ∨ k = w.heap.size, .slice none 0 0, .slice (some ⟨w.heap.size, 0, none⟩) 1 1, rfl, ⟨?_, .inl rfl, hA, rfl, World.ownsRow_nil _ _ _ _, (fun k h => by cases h), hF.own (sz := 1) 0 1 (Nat.zero_le _) rfl (by simp [maxLen]), (fun k h => by cases h; exact .inr rfl), (fun i t q h => by simp [M0] at h), (fun i j q r h => by simp at h)⟩, hb, ?_⟩
  · rintro k (rfl | rfl) <;> simp
    omega
  · rintro k (rfl | rfl) <;> omega
set_option maxHeartbeats 1000000 in
theorem new_any (w : World) (limit : Int) : Calls Try.prog 7 #[I limit] w (NewRes limit w) := by
  go_enter Try.func7, Try.ntmps7
  go_wp2
  all_goals
    go_ret
    exact new_res w limit _ (by omega)
theorem MemW.putFrames {w w1 : World} {F : Nat → Prop} {p : Nat} {M : HM} {tv fv fv' : Value} {qs : List TQ} {l : List Int} (h : MemW w F p M tv fv qs) (hap : Ap 0 3 1 w w1 fv fv' l.length (ints l)) :
    MemW (w1.setCell ⟨p, 1, none⟩ fv') (fun k => F k ∨ fv'.ownBlock = some k) p { M with frames := l } tv fv' qs := by
  have hsz := hap.grew.size
  have hb : ∀ k, k < w.heap.size → k ≠ p → fv.ownBlock ≠ some k → (w1.setCell ⟨p, 1, none⟩ fv').heap[k]? = w.heap[k]? := fun k hk hp hf => (Below.heap_setCell _ _ _ _ hp).trans (hap.grew.block k hk (fun e => hf e.symm))
  have hpf : fv.ownBlock ≠ some p := fun e => by
    obtain ⟨cur, hc⟩ := own_type h.frames e
    exact ne_type hc h.arr.out (by decide) rfl
  have htf : ∀ k, tv.ownBlock = some k → k ≠ p ∧ fv.ownBlock ≠ some k := fun k e => by
    obtain ⟨cur, hc⟩ := own_type h.things e
    refine ⟨ne_type hc h.arr.out (by decide), fun e2 => ?_⟩
    obtain ⟨cur2, hc2⟩ := own_type h.frames e2
    exact ne_type hc hc2 (by decide) rfl
  have hfp : ∀ k, fv'.ownBlock = some k → k ≠ p := fun k e => by
    have hp := h.lt p h.fp
    rcases hap.lies with h1 | h1
    · rw [h1] at e
      intro e2
      exact hpf (e2 ▸ e)
    · rw [h1] at e
      cases e
      omega
  refine ⟨fun k hk => ?_, .inl h.fp, ?_, h.len, own_kept h.things (fun k e => hb k (h.lt k (h.thingsF k e)) (htf k e).1 (htf k e).2), fun k e => .inl (h.thingsF k e), own_kept hap.own (fun k e => Below.heap_setCell _ _ _ _ (hfp k e)), fun k e => .inr e, fun i t q ht hq => ?_, h.apart⟩
  · rcases hk with hk | hk
    · have := h.lt k hk; simp; omega
    · have := (hap.own.lt k hk).2; simpa using this
  · exact (h.arr.grown hap.grew (fun e => hpf e.symm)).set 1 fv'
  · have hth := h.each i t q ht hq
    refine hth.kept (fun k hk he => hb k (h.lt k hk) (hth.off h.arr.out (by decide) (by decide) k he) (fun e => ?_)) (fun k hk => .inl hk)
    obtain ⟨cur, hc⟩ := own_type h.frames e
    exact hth.off hc (by decide) (by decide) k he rfl
theorem MemW.cutFrames {w : World} {F : Nat → Prop} {p g n cap : Nat} {M : HM} {tv : Value} {qs : List TQ} {l : List Int} {x : Int} (h : MemW w F p M tv (.slice (some ⟨g, 0, none⟩) (n + 1) cap) qs) (hl : M.frames = l ++ [x]) (hn : l.length = n) :
    MemW (w.setCell ⟨p, 1, none⟩ (.slice (some ⟨g, 0, none⟩) n cap)) F p { M with frames := l } tv (.slice (some ⟨g, 0, none⟩) n cap) qs := by
  subst hn
  have hkp : ∀ k, k ≠ p → (w.setCell ⟨p, 1, none⟩ (.slice (some ⟨g, 0, none⟩) l.length cap)).heap[k]? = w.heap[k]? := fun k hk => Below.heap_setCell _ _ _ _ hk
  have hfr : w.ownsRow 0 3 1 (.slice (some ⟨g, 0, none⟩) (l.length + 1) cap) (l.length + 1) (ints l ++ [I x]) := by
    have := h.frames
    rw [hl, ints_append] at this
    simpa [ints] using this
  refine ⟨fun k hk => by simpa using h.lt k hk, h.fp, h.arr.set 1 _, h.len, own_kept h.things (fun k e => hkp k ?_), h.thingsF, own_kept (own_pop hfr) (fun k e => hkp k ?_), h.framesF, fun i t q ht hq => ?_, h.apart⟩
  · obtain ⟨cur, hc⟩ := own_type h.things e
    exact ne_type hc h.arr.out (by decide)
  · obtain ⟨cur, hc⟩ := own_type h.frames e
    exact ne_type hc h.arr.out (by decide)
  · have hth := h.each i t q ht hq
    exact hth.kept (fun k _ hk => hkp k (hth.off h.arr.out (by decide) (by decide) k hk)) (fun _ h => h)
/-- A memory that was changed by a call. -/
structure MemOut (w w' : World) (F : Nat → Prop) (p : Nat) (M' : HM) (F' : Nat → Prop) (tv fv : Value) (qs : List TQ) : Prop where
  mem : MemW w' F' p M' tv fv qs
  chg : Chg F w w'
  new : ∀ k, F' k → F k ∨ w.heap.size ≤ k
def EnterRes (w : World) (F : Nat → Prop) (p : Nat) (M : HM) (tv : Value) (qs : List TQ) (e : Ending) (w' : World) : Prop := ∃ F' fv', e = .returned (I (M.frames.length + 1)) ∧ MemOut w w' F p { M with last := M.last + 1, frames := M.frames ++ [M.last + 1] } F' tv fv' qs
def enterM (M : HM) : HM := { M with last := M.last + 1, frames := M.frames ++ [M.last + 1] }

set_option maxHeartbeats 4000000 in
set_option maxRecDepth 100000 in
theorem enter_any (w : World) (F : Nat → Prop) (p : Nat) (M : HM) (tv fv : Value) (qs : List TQ) (h : MemW w F p M tv fv qs) (hf : M.frames ≠ []) (hl0 : 0 ≤ M.last) (hl : M.last ≤ 1000000000) (hfl : M.frames.length ≤ 1000000000) :
    Calls Try.prog 8 #[P0 p] w (EnterRes w F p M tv qs) := by
  obtain ⟨_, c1, c2, _, _, _⟩ := h.cell
  have f2 := h.arr.frozen 2
  obtain ⟨last, hlast⟩ : ∃ x, M.last = x := ⟨_, rfl⟩
  obtain ⟨nf, hnf⟩ : ∃ n, M.frames.length = n := ⟨_, rfl⟩
  have hpos : 0 < nf := by rw [← hnf]; exact List.length_pos_iff.2 hf
  rw [hlast] at c2 hl hl0
  rw [hnf] at hfl
  have hpl := h.lt p h.fp
  have hw := MemW.word (M' := { M with last := last + 1 }) h 2 (I (last + 1)) rfl rfl rfl
  have hfr : (w.setCell ⟨p, 2, none⟩ (I (last + 1))).ownsRow 0 3 1 fv nf (ints M.frames) := by rw [← hnf]; exact hw.frames
  obtain ⟨g, cap, rfl, hg1, hg2⟩ := hfr.form hpos
  have hwH := Lib.hid hw
  have hnp : g ≠ p := by
    obtain ⟨cur, hc⟩ := own_type h.frames (k := g) rfl
    exact ne_type hc h.arr.out (by decide)
  have HLN := Lib.hid hlast
  have HNF := Lib.hid hnf
  have HFP := Lib.hid h.fp
  clear h hw hfr hlast hnf hf
  obtain ⟨W, hW⟩ : ∃ W, w.setCell ⟨p, 2, none⟩ (I (last + 1)) = W := ⟨_, rfl⟩
  rw [hW] at hwH hg2
  have hCW : Chg F w W := by rw [← hW]; exact (Chg.refl F w).set (a := ⟨p, 2, none⟩) HFP.out _
  have hWs : W.heap.size = w.heap.size := by rw [← hW]; simp
  have HWS := Lib.hid hWs
  have HCW := Lib.hid hCW
  go_enter Try.func8, Try.ntmps8
  go_upto_region 2 with fail
  clear hW hWs hCW c1 c2 f2
  obtain ⟨_, d1, d2, _, _, _⟩ := hwH.out.cell
  have f1 := hwH.out.arr.frozen 1
  have hfo : W.ownsRow 0 3 1 (.slice (some ⟨g, 0, none⟩) nf cap) nf (ints M.frames) := by have := hwH.out.frames; rw [← HNF.out]; rwa [← HNF.out] at this
  have HFO := Lib.hid hfo
  have hne : Hid (some p ≠ (Value.slice (some ⟨g, 0, none⟩) nf cap).ownBlock) := Lib.hid (fun e => by cases e; exact hnp rfl)
  have hpW : p < W.heap.size := by have := HWS.out; omega
  clear hfo
  refine wp_region_z (fun w' => w'.cell? ⟨p, 1, none⟩ = some (.slice (some ⟨g, 0, none⟩) nf cap) ∧ w'.cell? ⟨p, 2, none⟩ = some (I (last + 1))) 13 (by kernel_rfl) ?_
  have hS0 : W.drew.cell? ⟨p, 1, none⟩ = some (.slice (some ⟨g, 0, none⟩) nf cap) ∧ W.drew.cell? ⟨p, 2, none⟩ = some (I (last + 1)) := ⟨d1, d2⟩
  refine wpZ_take (i := 0) (v := ?_) rfl (by kernel_rfl) (fun _ _ _ h => h) (Or.inl ⟨rfl, ?_⟩) hS0 ?_
  rotate_left
  · rintro W ⟨s0, s1⟩
    go_simp
    try (with_reducible rfl)
  refine wpZ_take (i := 1) (v := ?_) rfl (by kernel_rfl) (fun _ _ _ h => h) (Or.inl ⟨rfl, ?_⟩) hS0 ?_
  rotate_left
  · rintro W ⟨s0, s1⟩
    go_simp
    try (with_reducible rfl)
  refine wpZ_take (i := 2) (v := ?_) rfl (by kernel_rfl) (fun _ _ _ h => h) (Or.inl ⟨rfl, ?_⟩) hS0 ?_
  rotate_left
  · rintro W ⟨s0, s1⟩
    go_simp
    try (with_reducible rfl)
  refine wpZ_take (i := 3) (v := ?_) rfl (by kernel_rfl) (fun _ _ _ h => h) (Or.inl ⟨rfl, ?_⟩) hS0 ?_
  rotate_left
  · rintro W ⟨s0, s1⟩
    go_simp
    try (with_reducible rfl)
  refine wpZ_take (i := 4) (v := ?_) rfl (by kernel_rfl) (fun _ _ _ h => h) (Or.inl ⟨rfl, ?_⟩) hS0 ?_
  rotate_left
  · rintro W ⟨s0, s1⟩
    go_simp
    try (with_reducible rfl)
  refine wpZ_take (i := 5) (v := ?_) rfl (by kernel_rfl) (fun _ _ _ h => h) (Or.inl ⟨rfl, ?_⟩) hS0 ?_
  rotate_left
  · rintro W ⟨s0, s1⟩
    go_simp
    try (with_reducible rfl)
  refine wpZ_take (i := 6) (v := ?_) rfl (by kernel_rfl) (fun _ _ _ h => h) (Or.inl ⟨rfl, ?_⟩) hS0 ?_
  rotate_left
  · rintro W ⟨s0, s1⟩
    go_simp
    try (with_reducible rfl)
  refine wpZ_take (i := 7) (v := ?_) rfl (by kernel_rfl) (fun _ _ _ h => h) (Or.inl ⟨rfl, ?_⟩) hS0 ?_
  rotate_left
  · rintro W ⟨s0, s1⟩
    go_simp
    try (with_reducible rfl)
  refine wpZ_take (i := 8) (v := ?_) rfl (by kernel_rfl) (fun _ _ _ h => h) (Or.inl ⟨rfl, ?_⟩) hS0 ?_
  rotate_left
  · rintro W ⟨s0, s1⟩
    go_simp
    try (with_reducible rfl)
  refine wpZ_one (i := 9) rfl (by kernel_rfl) (fun K hK => ?_)
  go_simp
  refine hK _ _ (fun _ => ⟨cell_later _ d1, cell_later _ d2⟩) ?_
  clear hK K hS0
  refine wpZ_one (i := 10) rfl (by kernel_rfl) (fun K hK => ?_)
  refine step_append (by rfl) _ _ _ (by rfl) E24 (by rfl) ((HFO.out.alloc _).drew) (ad := ⟨W.heap.size, 0, none⟩) (m := 1) (c := 1) (news := [I (last + 1)]) (by rfl) (by rfl) (World.news_of_block (cs := #[I (last + 1)]) (t := 3) (fr := (0, 0)) (heap_alloc_new W _)) (by simp [Value.oneCell']) (by omega) (by simp only [maxLen]; omega) (by omega) (by simp) ?_
  intro g' cap' w1 hap
  have hS1 : w1.cell? ⟨p, 1, none⟩ = some (.slice (some ⟨g, 0, none⟩) nf cap) ∧ w1.cell? ⟨p, 2, none⟩ = some (I (last + 1)) := ⟨hap.grew.cell (cell_later _ d1) hne.out, hap.grew.cell (cell_later _ d2) hne.out⟩
  have d3 : w1.frozen? ⟨p, 1, none⟩ = false := (hap.grew.frozen_far ⟨p, 1, none⟩ (by simp; omega) hne.out).trans (frozen_later _ f1 hpW)
  refine hK _ _ (fun _ => hS1) ?_
  clear hK K
  refine wpZ_take (i := 11) (v := ?_) rfl (by kernel_rfl) (fun _ _ _ h => h) (Or.inl ⟨rfl, ?_⟩) hS1 ?_
  rotate_left
  · rintro W ⟨s0, s1⟩
    go_simp
    try (with_reducible rfl)
  refine wpZ_take (i := 12) (v := ?_) rfl (by kernel_rfl) (fun _ _ _ h => h) (Or.inl ⟨rfl, ?_⟩) hS1 ?_
  rotate_left
  · rintro W ⟨s0, s1⟩
    go_simp
    try (with_reducible rfl)
  obtain ⟨d4, d5⟩ := hS1
  refine wpZ_one (i := 13) rfl (by kernel_rfl) (fun K hK => ?_)
  go_simp
  refine hK _ _ (fun h => absurd rfl h) ?_
  clear hK K
  refine wpZ_done (by kernel_rfl) ?_ _
  have d6 : (w1.setCell ⟨p, 1, none⟩ (.slice (some ⟨g', 0, none⟩) (nf + 1) cap')).cell? ⟨p, 1, none⟩ = some (.slice (some ⟨g', 0, none⟩) (nf + 1) cap') := World.cell?_setCell_same _ _ _ d4
  clear d1 d2 d3 d4 d5 f1
  go_wp2
  go_ret
  have hl2 : (M.frames ++ [last + 1]).length = nf + 1 := by simp [HNF.out]
  have hmem := MemW.putFrames (l := M.frames ++ [last + 1]) ((hwH.out.below (below_alloc _ (.cells #[I (last + 1)] 3))).drewN 1) (by rw [hl2, ints_append]; exact hap)
  have hmem2 : MemW (w1.setCell ⟨p, 1, none⟩ (.slice (some ⟨g', 0, none⟩) (nf + 1) cap')) (fun k => F k ∨ (Value.slice (some ⟨g', 0, none⟩) (nf + 1) cap').ownBlock = some k) p { M with last := M.last + 1, frames := M.frames ++ [M.last + 1] } tv (.slice (some ⟨g', 0, none⟩) (nf + 1) cap') qs := by rw [HLN.out]; exact hmem
  have hFg : F g := hwH.out.framesF g rfl
  refine ⟨_, _, by rw [HNF.out]; rfl, hmem2, ((HCW.out.alloc _).drew.grown hap.grew (fun k e _ => by cases e; exact hFg)).set (a := ⟨p, 1, none⟩) HFP.out _, ?_⟩
  rintro k (hk | hk)
  · exact .inl hk
  · rcases hap.lies with h1 | h1
    · rw [h1] at hk; cases hk; exact .inl hFg
    · rw [h1] at hk; cases hk
      have := HWS.out
      exact .inr (by simp; omega)

def LeaveRes (w : World) (F : Nat → Prop) (p : Nat) (M : HM) (tv : Value) (qs : List TQ) (e : Ending) (w' : World) : Prop := ∃ fv', e = .returned (.bool (decide (2 ≤ M.frames.length))) ∧ MemOut w w' F p (if 2 ≤ M.frames.length then { M with frames := M.frames.dropLast } else M) F tv fv' qs
set_option maxHeartbeats 4000000 in
set_option maxRecDepth 100000 in
theorem leave_any (w : World) (F : Nat → Prop) (p : Nat) (M : HM) (tv fv : Value) (qs : List TQ) (h : MemW w F p M tv fv qs) (hfl : M.frames.length ≤ 1000000000) :
    Calls Try.prog 10 #[P0 p] w (LeaveRes w F p M tv qs) := by
  obtain ⟨_, c1, _, _, _, _⟩ := h.cell
  have f1 := h.arr.frozen 1
  obtain ⟨nf, hnf⟩ : ∃ n, M.frames.length = n := ⟨_, rfl⟩
  rw [hnf] at hfl
  have hfo := h.frames
  have HH := Lib.hid h
  have HNF := Lib.hid hnf
  by_cases h2 : 2 ≤ nf
  · obtain ⟨g, cap, rfl, hg1, hg2⟩ := hfo.form (by omega)
    obtain ⟨A, c, e, hcap, hcap2⟩ := (Rd.of_own hfo).form
    cases e
    rw [hnf] at c1 hcap
    obtain ⟨m, rfl⟩ : ∃ m, nf = m + 1 := ⟨nf - 1, by omega⟩
    have h2' : ¬ ((m : Int) + 1 < 2) := by omega
    have hc' : (m : Int) ≤ cap := by omega
    have hm0 : (0 : Int) ≤ m := by omega
    have hc2' : (cap : Int) ≤ 9223372036854775807 := by omega
    have hwr : IntKind.i64.wrap (m : Int) = m := IntWalk.i64_in _ ⟨by omega, by omega⟩
    have f1' : w.drew.frozen? ⟨p, 1, none⟩ = false := f1
    clear h hfo hnf
    go_enter Try.func10, Try.ntmps10
    go_upto_region 3 with fail
    refine wp_region_z (fun w' => w'.cell? ⟨p, 1, none⟩ = some (.slice (some ⟨g, 0, none⟩) (m + 1) cap)) 14 (by kernel_rfl) ?_
    have hS0 : w.drew.cell? ⟨p, 1, none⟩ = some (.slice (some ⟨g, 0, none⟩) (m + 1) cap) := c1
    refine wpZ_take (i := 0) (v := ?_) rfl (by kernel_rfl) (fun _ _ _ h => h) (Or.inl ⟨rfl, ?_⟩) hS0 ?_
    rotate_left
    · intro W s0
      go_simp
      try (with_reducible rfl)
    refine wpZ_take (i := 1) (v := ?_) rfl (by kernel_rfl) (fun _ _ _ h => h) (Or.inl ⟨rfl, ?_⟩) hS0 ?_
    rotate_left
    · intro W s0
      go_simp
      try (with_reducible rfl)
    refine wpZ_take (i := 2) (v := ?_) rfl (by kernel_rfl) (fun _ _ _ h => h) (Or.inl ⟨rfl, ?_⟩) hS0 ?_
    rotate_left
    · intro W s0
      go_simp
      try (with_reducible rfl)
    refine wpZ_take (i := 3) (v := ?_) rfl (by kernel_rfl) (fun _ _ _ h => h) (Or.inl ⟨rfl, ?_⟩) hS0 ?_
    rotate_left
    · intro W s0
      go_simp
      try (with_reducible rfl)
    refine wpZ_take (i := 4) (v := ?_) rfl (by kernel_rfl) (fun _ _ _ h => h) (Or.inl ⟨rfl, ?_⟩) hS0 ?_
    rotate_left
    · intro W s0
      go_simp
      try (with_reducible rfl)
    refine wpZ_take (i := 5) (v := ?_) rfl (by kernel_rfl) (fun _ _ _ h => h) (Or.inl ⟨rfl, ?_⟩) hS0 ?_
    rotate_left
    · intro W s0
      go_simp
      try (with_reducible rfl)
    refine wpZ_take (i := 6) (v := ?_) rfl (by kernel_rfl) (fun _ _ _ h => h) (Or.inl ⟨rfl, ?_⟩) hS0 ?_
    rotate_left
    · intro W s0
      go_simp
      try (with_reducible rfl)
    refine wpZ_take (i := 7) (v := ?_) rfl (by kernel_rfl) (fun _ _ _ h => h) (Or.inl ⟨rfl, ?_⟩) hS0 ?_
    rotate_left
    · intro W s0
      go_simp
      try (with_reducible rfl)
    refine wpZ_take (i := 8) (v := ?_) rfl (by kernel_rfl) (fun _ _ _ h => h) (Or.inl ⟨rfl, ?_⟩) hS0 ?_
    rotate_left
    · intro W s0
      go_simp
      try (with_reducible rfl)
    refine wpZ_take (i := 9) (v := ?_) rfl (by kernel_rfl) (fun _ _ _ h => h) (Or.inl ⟨rfl, ?_⟩) hS0 ?_
    rotate_left
    · intro W s0
      go_simp
      try (with_reducible rfl)
    refine wpZ_take (i := 10) (v := ?_) rfl (by kernel_rfl) (fun _ _ _ h => h) (Or.inl ⟨rfl, ?_⟩) hS0 ?_
    rotate_left
    · intro W s0
      go_simp
      try (with_reducible rfl)
    refine wpZ_take (i := 11) (v := ?_) rfl (by kernel_rfl) (fun _ _ _ h => h) (Or.inl ⟨rfl, ?_⟩) hS0 ?_
    rotate_left
    · intro W s0
      go_simp
      try (with_reducible rfl)
    refine wpZ_take (i := 12) (v := ?_) rfl (by kernel_rfl) (fun _ _ _ h => h) (Or.inl ⟨rfl, ?_⟩) hS0 ?_
    rotate_left
    · intro W s0
      go_simp
      try (with_reducible rfl)
    refine wpZ_take (i := 13) (v := ?_) rfl (by kernel_rfl) (fun _ _ _ h => h) (Or.inl ⟨rfl, ?_⟩) hS0 ?_
    rotate_left
    · intro W s0
      go_simp
      try (with_reducible rfl)
    refine wpZ_one (i := 14) rfl (by kernel_rfl) (fun K hK => ?_)
    go_simp
    refine hK _ _ (fun h => absurd rfl h) ?_
    clear hK K
    refine wpZ_done (by kernel_rfl) ?_ _
    go_wp2
    go_ret
    obtain ⟨l, x, hlx⟩ : ∃ l x, M.frames = l ++ [x] := by
      rcases List.eq_nil_or_concat M.frames with e | ⟨l, x, e⟩
      · have := HNF.out; rw [e] at this; simp at this
      · exact ⟨l, x, by simpa using e⟩
    have hll : l.length = m := by have := HNF.out; rw [hlx] at this; simpa using this
    have hmem := (MemW.cutFrames (n := m) (by have := HH.out; rw [HNF.out] at this; exact this) hlx hll).drew
    refine ⟨.slice (some ⟨g, 0, none⟩) m cap, by rw [HNF.out, de_t h2]; rfl, ?_, ((Chg.refl F w).set (a := ⟨p, 1, none⟩) HH.out.fp _).drew, fun k hk => .inl hk⟩
    rw [HNF.out, if_pos h2]
    have e : M.frames.dropLast = l := by rw [hlx]; simp
    rw [e]
    exact hmem
  · have h2' : (nf : Int) < 2 := by omega
    obtain ⟨A, c, rfl, hcap, hcap2⟩ := (Rd.of_own hfo).form
    rw [hnf] at c1
    clear h hfo hnf hcap
    go_enter Try.func10, Try.ntmps10
    go_wp2
    go_ret
    refine ⟨.slice A M.frames.length c, by rw [HNF.out, de_f h2]; rfl, ?_, Chg.refl F w, fun k hk => .inl hk⟩
    rw [HNF.out, if_neg h2]
    have := HH.out
    rw [HNF.out] at this
    exact this
end Go.Proofs.Ytakpikoffbgjfaa
