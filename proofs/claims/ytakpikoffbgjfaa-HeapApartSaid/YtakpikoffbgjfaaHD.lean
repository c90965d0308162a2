import Derived.Test.YtakpikoffbgjfaaHC
namespace Go.Proofs.Ytakpikoffbgjfaa
open Go.RowKit

theorem Chg.mono {F G : Nat → Prop} {w w' : World} (h : Chg F w w') (hk : ∀ k, k < w.heap.size → F k → G k) : Chg G w w' := ⟨h.os, h.tape, h.output, h.size, fun k hl hn => h.block k hl (fun e => hn (hk k hl e))⟩
def madeF (M : HM) (t : Th) (stack : Bool) : HM × Int × Int :=
  if stack then ({ M with things := M.things ++ [{ t with frame := M.frames.getLastD 0 }] }, M.things.length + 1, 0)
  else if 8 + 8 * (t.vals.length : Int) ≤ M.limit - M.used then ({ M with used := M.used + (8 + 8 * t.vals.length), makes := M.makes + 1, things := M.things ++ [t] }, M.things.length + 1, 0)
  else (M, 0, 4)
def MadeRes (w : World) (F G : Nat → Prop) (p : Nat) (M : HM) (fv : Value) (t : Th) (stack : Bool) (e : Ending) (w' : World) : Prop :=
  ∃ F' tv' qs', e = .returned (.tuple #[I (madeF M t stack).2.1, I (madeF M t stack).2.2]) ∧ MemW w' F' p (madeF M t stack).1 tv' fv qs' ∧ Chg F w w' ∧ ∀ k, F' k → F k ∨ G k ∨ w.heap.size ≤ k
set_option maxHeartbeats 8000000 in
set_option maxRecDepth 100000 in
theorem made_any (w : World) (F G : Nat → Prop) (p : Nat) (M : HM) (tv fv : Value) (qs : List TQ) (t : Th) (qc qk qm : Value) (stack : Bool) (h : MemW w F p M tv fv qs) (ht : ThW w G t ⟨qc, qk, qm, 0⟩) (hG : ∀ k, G k → k < w.heap.size ∧ ¬ F k)
    (h0 : t.frame = 0) (hr : Room M) (hf : M.frames ≠ []) (hfl : M.frames.length ≤ 1000000000) (hth : M.things.length ≤ 1000000000) (hv : t.vals.length ≤ 1000000) (hm0 : 0 ≤ M.makes) (hm : M.makes ≤ 1000000000000) :
    Calls Try.prog 23 #[P0 p, .agg #[qc, qk, qm, I 0], .bool stack] w (MadeRes w F G p M fv t stack) := by
  obtain ⟨Ac, cc, rfl, hc1, hc2⟩ := (Rd.of_own ht.cells).form
  have hb0 : Below w.heap.size w (w.alloc (.cells #[.slice Ac t.vals.length cc, qk, qm, I 0] 64)) := below_alloc w _
  have hM0 := h.below hb0
  have hA0 : Arr (w.alloc (.cells #[.slice Ac t.vals.length cc, qk, qm, I 0] 64)) w.heap.size 64 [.slice Ac t.vals.length cc, qk, qm, I 0] := Arr.new w 64 _
  obtain ⟨W, hW⟩ : ∃ W, w.alloc (.cells #[.slice Ac t.vals.length cc, qk, qm, I 0] 64) = W := ⟨_, rfl⟩
  rw [hW] at hM0 hA0 hb0
  obtain ⟨bx, hbx⟩ : ∃ bx, w.heap.size = bx := ⟨_, rfl⟩
  rw [hbx] at hA0
  have hs0 : w.heap.size < W.heap.size := by rw [← hW]; simp
  have HM0 := Lib.hid hM0
  have HA0 := Lib.hid hA0
  have HB0 := Lib.hid hb0
  have HT := Lib.hid ht
  have HMW := Lib.hid h
  have HG := Lib.hid hG
  have hbF : Hid (¬ F bx) := Lib.hid (fun e => by have := h.lt bx e; omega)
  have HBX := Lib.hid hbx
  have HW := Lib.hid hW
  have hpb : p ≠ bx := fun e => hbF.out (e ▸ h.fp)
  have HPB := Lib.hid hpb
  clear h ht hG hM0 hA0 hb0 hpb
  go_enter Try.func23, Try.ntmps23
  go_upto_if 8 with fail
  clear hbx hW
  go_cut [9] (fun s9 wx => ∃ (M1 : HM) (f : Int), MemW wx F p M1 tv fv qs ∧ Arr wx bx 64 [.slice Ac t.vals.length cc, qk, qm, I f] ∧ Chg (fun k => F k ∨ k = bx) W wx ∧ M1.things = M.things ∧ madeF M t stack = ({ M1 with things := M1.things ++ [{ t with frame := f }] }, (M.things.length : Int) + 1, 0))
  case first =>
    cases stack with
    | true =>
      obtain ⟨l, f, hlf⟩ : ∃ l f, M.frames = l ++ [f] := by
        rcases List.eq_nil_or_concat M.frames with e | ⟨l, x, e⟩
        · exact absurd e hf
        · exact ⟨l, x, by simpa using e⟩
      obtain ⟨m, hm⟩ : ∃ m, l.length = m := ⟨_, rfl⟩
      have hfo : W.ownsRow 0 3 1 fv (m + 1) (ints l ++ [I f]) := by
        have := HM0.out.frames
        rw [hlf, ints_append] at this
        simpa [ints, hm] using this
      have hml : m + 1 ≤ 1000000000 := by have := hfl; rw [hlf] at this; simpa [hm] using this
      obtain ⟨g, cap, rfl, hg1, hg2⟩ := hfo.form (by omega)
      obtain ⟨_, c1, _, _, _, _⟩ := HM0.out.cell
      have c2 : W.cell? ⟨g, m, none⟩ = some (I f) := by
        have := hfo.cells (g := g) rfl m (I f) (by rw [List.getElem?_append_right (by simp [hm])]; simp [hm])
        rwa [add_plain', Nat.zero_add] at this
      have c3 : W.cell? ⟨bx, 3, none⟩ = some (I 0) := by rw [HA0.out.cell]; rfl
      have f3 : W.drew.frozen? ⟨bx, 3, none⟩ = false := HA0.out.frozen 3
      have hwr : IntKind.i64.wrap (m : Int) = m := IntWalk.i64_in _ ⟨by omega, by omega⟩
      have hm0' : (0 : Int) ≤ m := by omega
      have hml' : (m : Int) < (m : Int) + 1 := by omega
      have HLF := Lib.hid hlf
      clear hfo hlf hm hf
      go_upto_region 2 with fail
      refine wp_region_z (fun w' => w'.cell? ⟨p, 1, none⟩ = some (.slice (some ⟨g, 0, none⟩) (m + 1) cap) ∧ w'.cell? ⟨g, m, none⟩ = some (I f) ∧ w'.cell? ⟨bx, 3, none⟩ = some (I 0)) 13 (by kernel_rfl) ?_
      have hS0 : W.drew.cell? ⟨p, 1, none⟩ = some (.slice (some ⟨g, 0, none⟩) (m + 1) cap) ∧ W.drew.cell? ⟨g, m, none⟩ = some (I f) ∧ W.drew.cell? ⟨bx, 3, none⟩ = some (I 0) := ⟨c1, c2, c3⟩
      refine wpZ_take (i := 0) (v := ?_) rfl (by kernel_rfl) (fun _ _ _ h => h) (Or.inl ⟨rfl, ?_⟩) hS0 ?_
      rotate_left
      · rintro W ⟨s0, s1, s2⟩
        go_simp
        try (with_reducible rfl)
      refine wpZ_take (i := 1) (v := ?_) rfl (by kernel_rfl) (fun _ _ _ h => h) (Or.inl ⟨rfl, ?_⟩) hS0 ?_
      rotate_left
      · rintro W ⟨s0, s1, s2⟩
        go_simp
        try (with_reducible rfl)
      refine wpZ_take (i := 2) (v := ?_) rfl (by kernel_rfl) (fun _ _ _ h => h) (Or.inl ⟨rfl, ?_⟩) hS0 ?_
      rotate_left
      · rintro W ⟨s0, s1, s2⟩
        go_simp
        try (with_reducible rfl)
      refine wpZ_take (i := 3) (v := ?_) rfl (by kernel_rfl) (fun _ _ _ h => h) (Or.inl ⟨rfl, ?_⟩) hS0 ?_
      rotate_left
      · rintro W ⟨s0, s1, s2⟩
        go_simp
        try (with_reducible rfl)
      refine wpZ_take (i := 4) (v := ?_) rfl (by kernel_rfl) (fun _ _ _ h => h) (Or.inl ⟨rfl, ?_⟩) hS0 ?_
      rotate_left
      · rintro W ⟨s0, s1, s2⟩
        go_simp
        try (with_reducible rfl)
      refine wpZ_take (i := 5) (v := ?_) rfl (by kernel_rfl) (fun _ _ _ h => h) (Or.inl ⟨rfl, ?_⟩) hS0 ?_
      rotate_left
      · rintro W ⟨s0, s1, s2⟩
        go_simp
        try (with_reducible rfl)
      refine wpZ_take (i := 6) (v := ?_) rfl (by kernel_rfl) (fun _ _ _ h => h) (Or.inl ⟨rfl, ?_⟩) hS0 ?_
      rotate_left
      · rintro W ⟨s0, s1, s2⟩
        go_simp
        try (with_reducible rfl)
      refine wpZ_take (i := 7) (v := ?_) rfl (by kernel_rfl) (fun _ _ _ h => h) (Or.inl ⟨rfl, ?_⟩) hS0 ?_
      rotate_left
      · rintro W ⟨s0, s1, s2⟩
        go_simp
        try (with_reducible rfl)
      refine wpZ_take (i := 8) (v := ?_) rfl (by kernel_rfl) (fun _ _ _ h => h) (Or.inl ⟨rfl, ?_⟩) hS0 ?_
      rotate_left
      · rintro W ⟨s0, s1, s2⟩
        go_simp
        try (with_reducible rfl)
      refine wpZ_take (i := 9) (v := ?_) rfl (by kernel_rfl) (fun _ _ _ h => h) (Or.inl ⟨rfl, ?_⟩) hS0 ?_
      rotate_left
      · rintro W ⟨s0, s1, s2⟩
        go_simp
        try (with_reducible rfl)
      refine wpZ_take (i := 10) (v := ?_) rfl (by kernel_rfl) (fun _ _ _ h => h) (Or.inl ⟨rfl, ?_⟩) hS0 ?_
      rotate_left
      · rintro W ⟨s0, s1, s2⟩
        go_simp
        try (with_reducible rfl)
      refine wpZ_take (i := 11) (v := ?_) rfl (by kernel_rfl) (fun _ _ _ h => h) (Or.inl ⟨rfl, ?_⟩) hS0 ?_
      rotate_left
      · rintro W ⟨s0, s1, s2⟩
        go_simp
        try (with_reducible rfl)
      refine wpZ_take (i := 12) (v := ?_) rfl (by kernel_rfl) (fun _ _ _ h => h) (Or.inl ⟨rfl, ?_⟩) hS0 ?_
      rotate_left
      · rintro W ⟨s0, s1, s2⟩
        go_simp
        try (with_reducible rfl)
      obtain ⟨_, _, d3⟩ := hS0
      refine wpZ_one (i := 13) rfl (by kernel_rfl) (fun K hK => ?_)
      go_simp
      refine hK _ _ (fun h => absurd rfl h) ?_
      clear hK K
      refine wpZ_done (by kernel_rfl) ?_ _
      go_wp2_with fail
      go_meet
      case rel =>
        refine ⟨M, f, (HM0.out.kept (w' := W.setCell ⟨bx, 3, none⟩ (I f)) (fun k hk => Below.heap_setCell _ _ _ _ (fun e => hbF.out (by rw [← (show k = bx from e)]; exact hk))) (by simp)).drew, (HA0.out.set 3 (I f)).drew, ((Chg.refl (fun k => F k ∨ k = bx) W).set (a := ⟨bx, 3, none⟩) (.inr rfl) _).drew, rfl, ?_⟩
        rw [madeF, if_pos rfl, HLF.out, List.getLastD_concat]
    | false =>
      have c0 : W.cell? ⟨bx, 0, none⟩ = some (.slice Ac t.vals.length cc) := by rw [HA0.out.cell]; rfl
      by_cases hroom : 8 + 8 * (t.vals.length : Int) ≤ M.limit - M.used
      · have hd : decide (8 + 8 * (t.vals.length : Int) ≤ M.limit - M.used) = true := de_t hroom
        have HROOM := Lib.hid hroom
        clear hroom
        go_wp2_with fail
        refine (takes_any W F p M tv fv qs HM0.out hr (8 + 8 * (t.vals.length : Int)) (by omega) (by omega)).mono ?_
        rintro e w2 ⟨rfl, hm2, hc2⟩
        rw [takeM, if_pos HROOM.out] at hm2
        have HM2 := Lib.hid hm2
        obtain ⟨_, _, _, _, _, c5⟩ := hm2.cell
        have f5 := hm2.arr.frozen 5
        clear hm2 c0
        have hw5 : IntKind.i64.wrap (M.makes + 1) = M.makes + 1 := IntWalk.i64_in _ ⟨by omega, by omega⟩
        go_wp2_with fail
        go_meet
        case rel =>
          have hm3 := MemW.word (M' := { M with used := M.used + (8 + 8 * (t.vals.length : Int)), makes := M.makes + 1 }) HM2.out 5 (I (M.makes + 1)) rfl rfl rfl
          refine ⟨_, 0, hm3, (HA0.out.block (hc2.block bx HA0.out.lt hbF.out)).other HPB.out.symm _, (hc2.trans (Chg.refl F w2) (fun _ h => .inl h) (fun _ h _ => .inl h)).set (a := ⟨p, 5, none⟩) (.inl HM0.out.fp) _, rfl, ?_⟩
          rw [madeF, if_neg (by simp), if_pos HROOM.out]
          simp only [← h0]
      · have hd : decide (8 + 8 * (t.vals.length : Int) ≤ M.limit - M.used) = false := de_f hroom
        have HROOM := Lib.hid hroom
        clear hroom
        go_wp2_with fail
        refine (takes_any W F p M tv fv qs HM0.out hr (8 + 8 * (t.vals.length : Int)) (by omega) (by omega)).mono ?_
        rintro e w2 ⟨rfl, hm2, hc2⟩
        go_wp2_with fail
        go_ret2
        rw [takeM, if_neg (by have := HROOM.out; omega)] at hm2
        have hmf : madeF M t false = (M, 0, 4) := by rw [madeF, if_neg (by simp), if_neg (by have := HROOM.out; omega)]
        exact ⟨F, tv, qs, by rw [hmf]; rfl, by rw [hmf]; exact hm2, ((Chg.refl F w).alloc _ |> fun h => by rw [HW.out] at h; exact h.trans hc2 (fun _ h => h) (fun _ h _ => h)), fun k hk => .inl hk⟩
  case rest =>
    obtain ⟨M1, f, hM1, hA1, hC1, hT1, hE1⟩ := hcut
    have HE1 := Lib.hid hE1
    have hlen1 := hM1.len
    have htl : qs.length ≤ 1000000000 := by rw [hlen1, hT1]; exact hth
    obtain ⟨nq, hnq⟩ : ∃ n, qs.length = n := ⟨_, rfl⟩
    have hto : wc.ownsRow 0 64 4 tv nq (tqs qs) := by rw [← hnq]; exact hM1.things
    have hts : (M.things.length : Int) = nq := by rw [← hT1, ← hlen1, hnq]
    have HTS := Lib.hid hts
    rw [hnq] at htl
    obtain ⟨At, ct, rfl, ht1, ht2⟩ := (Rd.of_own hto).form
    obtain ⟨c0, _, _, _, _, _⟩ := hM1.cell
    have f0 := hM1.arr.frozen 0
    have b0 : wc.cell? ⟨bx, 0, none⟩ = some (.slice Ac t.vals.length cc) := by rw [hA1.cell]; rfl
    have b1 : wc.cell? ⟨bx, 1, none⟩ = some qk := by rw [hA1.cell]; rfl
    have b2 : wc.cell? ⟨bx, 2, none⟩ = some qm := by rw [hA1.cell]; rfl
    have b3 : wc.cell? ⟨bx, 3, none⟩ = some (I f) := by rw [hA1.cell]; rfl
    have HTO := Lib.hid hto
    have HM1 := Lib.hid hM1
    have HC1 := Lib.hid hC1
    have HNQ := Lib.hid hnq
    have hpl := hM1.lt p hM1.fp
    clear hE1 hM1 hA1 hC1 hT1 hlen1 hto hnq hts HM0 HA0 hr hf hfl hth
    go_upto_region 6 with fail
    refine wp_region_z (fun w' => w'.cell? ⟨p, 0, none⟩ = some (.slice At nq ct) ∧ w'.cell? ⟨bx, 0, none⟩ = some (.slice Ac t.vals.length cc) ∧ w'.cell? ⟨bx, 1, none⟩ = some qk ∧ w'.cell? ⟨bx, 2, none⟩ = some qm ∧ w'.cell? ⟨bx, 3, none⟩ = some (I f)) 10 (by kernel_rfl) ?_
    have hS0 : wc.drew.cell? ⟨p, 0, none⟩ = some (.slice At nq ct) ∧ wc.drew.cell? ⟨bx, 0, none⟩ = some (.slice Ac t.vals.length cc) ∧ wc.drew.cell? ⟨bx, 1, none⟩ = some qk ∧ wc.drew.cell? ⟨bx, 2, none⟩ = some qm ∧ wc.drew.cell? ⟨bx, 3, none⟩ = some (I f) := ⟨c0, b0, b1, b2, b3⟩
    refine wpZ_take (i := 0) (v := ?_) rfl (by kernel_rfl) (fun _ _ _ h => h) (Or.inl ⟨rfl, ?_⟩) hS0 ?_
    rotate_left
    · rintro W ⟨s0, s1, s2, s3, s4⟩
      go_simp
      try (with_reducible rfl)
    refine wpZ_take (i := 1) (v := ?_) rfl (by kernel_rfl) (fun _ _ _ h => h) (Or.inl ⟨rfl, ?_⟩) hS0 ?_
    rotate_left
    · rintro W ⟨s0, s1, s2, s3, s4⟩
      go_simp
      try (with_reducible rfl)
    refine wpZ_take (i := 2) (v := ?_) rfl (by kernel_rfl) (fun _ _ _ h => h) (Or.inl ⟨rfl, ?_⟩) hS0 ?_
    rotate_left
    · rintro W ⟨s0, s1, s2, s3, s4⟩
      go_simp
      try (with_reducible rfl)
    refine wpZ_take (i := 3) (v := ?_) rfl (by kernel_rfl) (fun _ _ _ h => h) (Or.inl ⟨rfl, ?_⟩) hS0 ?_
    rotate_left
    · rintro W ⟨s0, s1, s2, s3, s4⟩
      go_simp
      try (with_reducible rfl)
    refine wpZ_take (i := 4) (v := ?_) rfl (by kernel_rfl) (fun _ _ _ h => h) (Or.inl ⟨rfl, ?_⟩) hS0 ?_
    rotate_left
    · rintro W ⟨s0, s1, s2, s3, s4⟩
      go_simp
      try (with_reducible rfl)
    refine wpZ_take (i := 5) (v := ?_) rfl (by kernel_rfl) (fun _ _ _ h => h) (Or.inl ⟨rfl, ?_⟩) hS0 ?_
    rotate_left
    · rintro W ⟨s0, s1, s2, s3, s4⟩
      go_simp
      try (with_reducible rfl)
    refine wpZ_one (i := 6) rfl (by kernel_rfl) (fun K hK => ?_)
    go_simp
    refine hK _ _ (fun _ => ⟨cell_later _ c0, cell_later _ b0, cell_later _ b1, cell_later _ b2, cell_later _ b3⟩) ?_
    clear hK K hS0
    have hone : ∀ c ∈ ([.slice Ac t.vals.length cc, qk, qm, I f] : List Value), c.oneCell' = true := fun c hc => by
      simp only [List.mem_cons, List.not_mem_nil, or_false] at hc
      rcases hc with e | e | e | e
      · rw [e]; rfl
      · exact TQ.cs_one HT.out c (by simp [TQ.cs, e])
      · exact TQ.cs_one HT.out c (by simp [TQ.cs, e])
      · rw [e]; rfl
    have hnp : some p ≠ (Value.slice At nq ct).ownBlock := fun e => by
      obtain ⟨cur, hc⟩ := own_type HTO.out e.symm
      exact ne_type hc HM1.out.arr.out (by decide) rfl
    have hnb : some bx ≠ (Value.slice At nq ct).ownBlock := fun e => hbF.out (HM1.out.thingsF bx e.symm)
    refine wpZ_one (i := 7) rfl (by kernel_rfl) (fun K hK => ?_)
    refine step_append (by rfl) _ _ _ (by rfl) E58 (by rfl) ((HTO.out.alloc _).drew) (ad := ⟨wc.heap.size, 0, none⟩) (m := 1) (c := 1) (news := [.slice Ac t.vals.length cc, qk, qm, I f]) (by rfl) (by rfl) (World.news_of_block (cs := #[.slice Ac t.vals.length cc, qk, qm, I f]) (t := 64) (fr := (0, 0)) (heap_alloc_new wc _)) hone (by omega) (by simp only [maxLen]; omega) (by omega) (by simp) ?_
    intro g' cap' w1 hap
    have hS1 : w1.cell? ⟨p, 0, none⟩ = some (.slice At nq ct) ∧ w1.cell? ⟨bx, 0, none⟩ = some (.slice Ac t.vals.length cc) ∧ w1.cell? ⟨bx, 1, none⟩ = some qk ∧ w1.cell? ⟨bx, 2, none⟩ = some qm ∧ w1.cell? ⟨bx, 3, none⟩ = some (I f) :=
      ⟨hap.grew.cell (cell_later _ c0) hnp, hap.grew.cell (cell_later _ b0) hnb, hap.grew.cell (cell_later _ b1) hnb, hap.grew.cell (cell_later _ b2) hnb, hap.grew.cell (cell_later _ b3) hnb⟩
    have d0 : w1.frozen? ⟨p, 0, none⟩ = false := (hap.grew.frozen_far ⟨p, 0, none⟩ (by simp; omega) hnp).trans (frozen_later _ f0 hpl)
    refine hK _ _ (fun _ => hS1) ?_
    clear hK K
    refine wpZ_take (i := 8) (v := ?_) rfl (by kernel_rfl) (fun _ _ _ h => h) (Or.inl ⟨rfl, ?_⟩) hS1 ?_
    rotate_left
    · rintro W ⟨s0, s1, s2, s3, s4⟩
      go_simp
      try (with_reducible rfl)
    refine wpZ_take (i := 9) (v := ?_) rfl (by kernel_rfl) (fun _ _ _ h => h) (Or.inl ⟨rfl, ?_⟩) hS1 ?_
    rotate_left
    · rintro W ⟨s0, s1, s2, s3, s4⟩
      go_simp
      try (with_reducible rfl)
    have d1 := hS1.1
    clear hS1 c0 b0 b1 b2 b3 f0
    refine wpZ_one (i := 10) rfl (by kernel_rfl) (fun K hK => ?_)
    go_simp
    refine hK _ _ (fun h => absurd rfl h) ?_
    clear hK K
    refine wpZ_done (by kernel_rfl) ?_ _
    have d2 : (w1.setCell ⟨p, 0, none⟩ (.slice (some ⟨g', 0, none⟩) (nq + 1) cap')).cell? ⟨p, 0, none⟩ = some (.slice (some ⟨g', 0, none⟩) (nq + 1) cap') := World.cell?_setCell_same _ _ _ d1
    have HAP := Lib.hid hap
    clear d0 d1 hap hone hnp hnb
    go_wp2
    go_ret2
    have hBw : Chg (fun k => k = bx) w W := by rw [← HW.out]; exact (Chg.refl _ w).alloc _
    have hWC : Chg (fun k => F k ∨ k = bx) w wc := hBw.trans HC1.out (fun _ h => .inr h) (fun _ h _ => h)
    have hTh : ThW ((wc.alloc (.cells #[.slice Ac t.vals.length cc, qk, qm, I f] 64)).drew) G { t with frame := f } ⟨.slice Ac t.vals.length cc, qk, qm, f⟩ := by
      have h1 := HT.out.kept (w' := (wc.alloc (.cells #[.slice Ac t.vals.length cc, qk, qm, I f] 64)).drew) (G := G) (fun k hk _ => by
        have hg := HG.out k hk
        have e1 := hWC.block k hg.1 (fun h => by rcases h with h | h; exact hg.2 h; have := HBX.out; omega)
        rw [← e1]
        exact Below.heap_alloc _ _ _ (Nat.lt_of_lt_of_le hg.1 hWC.size)) (fun _ h => h)
      exact ⟨rfl, h1.cells, h1.cellsF, h1.keys, h1.keysF, h1.map⟩
    have hMW := (HM1.out.below (below_alloc wc (.cells #[.slice Ac t.vals.length cc, qk, qm, I f] 64))).drew
    have hput := MemW.putThing (n := nq + 1) (t := { t with frame := f }) hMW hTh (fun k hk => ⟨by have := (HG.out k hk).1; have := hWC.size; simp; omega, (HG.out k hk).2⟩) (by rw [HNQ.out]) (by rw [tqs_append]; exact HAP.out)
    refine ⟨_, _, _, by rw [HE1.out, HTS.out]; rfl, by rw [HE1.out]; exact hput, ?_, fun k hk => ?_⟩
    · have h1 : Chg (fun k => F k ∨ k = bx) w (w1.setCell ⟨p, 0, none⟩ (.slice (some ⟨g', 0, none⟩) (nq + 1) cap')) :=
        (((hWC.alloc _).drew).grown HAP.out.grew (fun k e _ => .inl (HM1.out.thingsF k e))).set (a := ⟨p, 0, none⟩) (.inl HM1.out.fp) _
      exact h1.mono (fun k hk h => by
        rcases h with h | h
        · exact h
        · have := HBX.out; omega)
    · rcases hk with hk | hk | hk
      · exact .inl hk
      · exact .inr (.inl hk)
      · rcases HAP.out.lies with h1 | h1
        · rw [h1] at hk; exact .inl (HM1.out.thingsF k hk)
        · rw [h1] at hk; cases hk
          have := hWC.size
          exact .inr (.inr (by simp; omega))
end Go.Proofs.Ytakpikoffbgjfaa
