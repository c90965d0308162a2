import Derived.Test.YtakpikoffbgjfaaRC
namespace Go.Proofs.Ytakpikoffbgjfaa
open Go.RowKit Go.Maps

theorem rc_one {w : World} {F : Nat → Prop} {t : RT} {q : RQ} (h : RtW w F t q) : ∀ c ∈ rc t q, c.oneCell' = true := by
  intro c hc
  obtain ⟨A0, c0, e0, _⟩ := (Rd.of_own h.v).form
  obtain ⟨A1, c1, e1, _⟩ := (Rd.of_own h.k).form
  obtain ⟨A2, c2, e2, _⟩ := (Rd.of_own h.u).form
  simp only [rc, e0, e1, e2, List.mem_cons, List.not_mem_nil, or_false] at hc
  rcases hc with rfl | rfl | rfl | rfl | rfl | rfl <;> rfl
/-- A thing is put behind the others. -/
theorem RmW.putThing {w w1 : World} {F G : Nat → Prop} {p n : Nat} {M : RM} {lv lv' : Value} {qs : List RQ} {t : RT} {q : RQ} (h : RmW w F p M lv qs) (ht : RtW w G t q) (hG : ∀ k, G k → k < w.heap.size ∧ ¬ F k)
    (hq : ∀ a b, a ≠ b → ∀ k, (q.s a).ownBlock = some k → (q.s b).ownBlock ≠ some k) (hn : n = M.l.length + 1) (hap : Ap 0 77 6 w w1 lv lv' n (rcs M.l qs ++ rc t q)) :
    RmW (w1.setCell ⟨p, 0, none⟩ lv') (fun k => F k ∨ G k ∨ lv'.ownBlock = some k) p { M with l := M.l ++ [t] } lv' (qs ++ [q]) := by
  have hsz := hap.grew.size
  have hb : ∀ k, k < w.heap.size → k ≠ p → lv.ownBlock ≠ some k → (w1.setCell ⟨p, 0, none⟩ lv').heap[k]? = w.heap[k]? := fun k hk hp hf => (Below.heap_setCell _ _ _ _ hp).trans (hap.grew.block k hk (fun e => hf e.symm))
  have hpf : lv.ownBlock ≠ some p := fun e => by
    obtain ⟨cur, hc⟩ := own_type h.row e
    exact ne_type hc h.arr.out (by decide) rfl
  have hfp : ∀ k, lv'.ownBlock = some k → k ≠ p := fun k e => by
    have hp := h.lt p h.fp
    rcases hap.lies with h1 | h1
    · rw [h1] at e
      intro e2
      exact hpf (e2 ▸ e)
    · rw [h1] at e
      cases e
      omega
  have hth : ∀ {H : Nat → Prop} {t' : RT} {q' : RQ}, RtW w H t' q' → (∀ k, H k → k < w.heap.size) → (∀ k, H k → (F k ∨ G k ∨ lv'.ownBlock = some k)) → RtW (w1.setCell ⟨p, 0, none⟩ lv') (fun k => F k ∨ G k ∨ lv'.ownBlock = some k) t' q' := fun h' hl hi =>
    h'.kept (fun a k he => hb k (hl k (h'.sF a k he)) (h'.off h.arr.out (by decide) (by decide) k a he) (fun e => by
      obtain ⟨cur, hc⟩ := own_type h.row e
      exact h'.off hc (by decide) (by decide) k a he rfl)) (fun a k he => hi k (h'.sF a k he))
  refine ⟨fun k hk => ?_, .inl h.fp, ?_, by simp [h.len], ?_, fun k e => .inr (.inr e), fun i t' q' ht' hq' => ?_, fun i j a b q1 q2 h1 h2 hij => ?_⟩
  · rcases hk with hk | hk | hk
    · have := h.lt k hk; simp; omega
    · have := (hG k hk).1; simp; omega
    · have := (hap.own.lt k hk).2; simpa using this
  · exact (h.arr.grown hap.grew (fun e => hpf e.symm)).set 0 lv'
  · have := own_kept hap.own (w' := w1.setCell ⟨p, 0, none⟩ lv') (fun k e => Below.heap_setCell _ _ _ _ (hfp k e))
    rw [rcs_append _ _ h.len.symm]
    simp only [List.length_append, List.length_singleton, rcs, List.append_nil]
    rw [← hn]; exact this
  · simp only [List.getElem?_append] at ht' hq'
    by_cases hi : i < M.l.length
    · rw [if_pos hi] at ht'
      rw [if_pos (by rw [h.len]; exact hi)] at hq'
      exact hth (h.each i t' q' ht' hq') (fun k hk => h.lt k hk) (fun k hk => .inl hk)
    · rw [if_neg hi] at ht'
      rw [if_neg (by rw [h.len]; exact hi)] at hq'
      rw [h.len] at hq'
      cases hj : i - M.l.length with
      | zero =>
        rw [hj] at ht' hq'
        simp at ht' hq'
        subst ht' hq'
        exact hth ht (fun k hk => (hG k hk).1) (fun k hk => .inr (.inl hk))
      | succ j => rw [hj] at ht'; simp at ht'
  · have old : ∀ (i : Nat) (q1 : RQ), qs[i]? = some q1 → ∀ a k, (q1.s a).ownBlock = some k → F k := fun i q1 hq => by
      have hi : i < M.l.length := by rw [← h.len]; exact (List.getElem?_eq_some_iff.1 hq).1
      exact (h.each i _ q1 (List.getElem?_eq_getElem hi) hq).sF
    have new : ∀ a k, (q.s a).ownBlock = some k → ¬ F k := fun a k e => (hG k (ht.sF a k e)).2
    simp only [List.getElem?_append] at h1 h2
    have lst : ∀ (i : Nat) (q1 : RQ), (if i < qs.length then qs[i]? else [q][i - qs.length]?) = some q1 → qs[i]? = some q1 ∨ (i = qs.length ∧ q1 = q) := fun i q1 hq => by
      split at hq
      · exact .inl hq
      · rename_i hi
        cases hj : i - qs.length with
        | zero => rw [hj] at hq; simp at hq; exact .inr ⟨by omega, hq.symm⟩
        | succ j => rw [hj] at hq; simp at hq
    intro k e1 e2
    rcases lst i q1 h1 with a1 | ⟨a1, rfl⟩ <;> rcases lst j q2 h2 with a2 | ⟨a2, rfl⟩
    · exact h.apart i j a b q1 q2 a1 a2 hij k e1 e2
    · exact new b k e2 (old i q1 a1 a k e1)
    · exact new a k e1 (old j q2 a2 b k e2)
    · rcases hij with e | e
      · omega
      · exact hq a b e k e1 e2
def makeR (M : RM) (t : RT) (stack : Bool) : RM × Int × Int :=
  if stack then ({ M with l := M.l ++ [{ t with frame := M.frames }] }, M.l.length + 1, 0)
  else if 8 + 8 * (t.vals.length : Int) ≤ M.limit - M.used then ({ M with used := M.used + (8 + 8 * t.vals.length), makes := M.makes + 1, l := M.l ++ [t] }, M.l.length + 1, 0)
  else (M, 0, 4)
def MakeRes (w : World) (F G : Nat → Prop) (p : Nat) (M : RM) (t : RT) (stack : Bool) (e : Ending) (w' : World) : Prop :=
  ∃ F' lv' qs', e = .returned (.tuple #[I (makeR M t stack).2.1, I (makeR M t stack).2.2]) ∧ RmW w' F' p (makeR M t stack).1 lv' qs' ∧ Chg F w w' ∧ ∀ k, F' k → F k ∨ G k ∨ w.heap.size ≤ k
structure RRoom (M : RM) : Prop where
  u0 : 0 ≤ M.used
  ul : M.used ≤ M.limit
  l : M.limit ≤ 16777216
  m0 : 0 ≤ M.makes
  m1 : M.makes ≤ 1000000000000
  f0 : 0 ≤ M.frames
  f1 : M.frames ≤ 1000000000
  ll : M.l.length ≤ 1000000000
set_option maxHeartbeats 8000000 in
set_option maxRecDepth 100000 in
theorem rmake_any (w : World) (F G : Nat → Prop) (p : Nat) (M : RM) (lv : Value) (qs : List RQ) (t : RT) (q : RQ) (stack : Bool) (h : RmW w F p M lv qs) (ht : RtW w G t q) (hG : ∀ k, G k → k < w.heap.size ∧ ¬ F k)
    (hq : ∀ a b, a ≠ b → ∀ k, (q.s a).ownBlock = some k → (q.s b).ownBlock ≠ some k) (hr : RRoom M) (hv : t.vals.length ≤ 1000000) :
    Calls Try.prog 35 #[P0 p, .agg #[I t.kind, q.v, q.k, q.u, I t.frame, .bool t.gone], .bool stack] w (MakeRes w F G p M t stack) := by
  obtain ⟨Ac, cc, ev, hc1, hc2⟩ := (Rd.of_own ht.v).form
  have hb0 : Below w.heap.size w (w.alloc (.cells #[I t.kind, q.v, q.k, q.u, I t.frame, .bool t.gone] 77)) := below_alloc w _
  have hM0 := h.below hb0
  have hA0 : Arr (w.alloc (.cells #[I t.kind, q.v, q.k, q.u, I t.frame, .bool t.gone] 77)) w.heap.size 77 [I t.kind, q.v, q.k, q.u, I t.frame, .bool t.gone] := Arr.new w 77 _
  obtain ⟨W, hW⟩ : ∃ W, w.alloc (.cells #[I t.kind, q.v, q.k, q.u, I t.frame, .bool t.gone] 77) = W := ⟨_, rfl⟩
  rw [hW] at hM0 hA0 hb0
  obtain ⟨bx, hbx⟩ : ∃ bx, w.heap.size = bx := ⟨_, rfl⟩
  rw [hbx] at hA0
  have hs0 : w.heap.size < W.heap.size := by rw [← hW]; simp
  have HM0 := Lib.hid hM0
  have HA0 := Lib.hid hA0
  have HB0 := Lib.hid hb0
  have HT := Lib.hid ht
  have HMW := Lib.hid h
  have HG := Lib.hid hG
  have HQ := Lib.hid hq
  have hbF : Hid (¬ F bx) := Lib.hid (fun e => by have := h.lt bx e; omega)
  have HBX := Lib.hid hbx
  have HW := Lib.hid hW
  have HEV := Lib.hid ev
  have HRR := Lib.hid hr
  have hpb : p ≠ bx := fun e => hbF.out (e ▸ h.fp)
  have HPB := Lib.hid hpb
  obtain ⟨tk, htk⟩ : ∃ x, t.kind = x := ⟨_, rfl⟩
  obtain ⟨tf, htf⟩ : ∃ x, t.frame = x := ⟨_, rfl⟩
  obtain ⟨tg, htg⟩ : ∃ x, t.gone = x := ⟨_, rfl⟩
  obtain ⟨nv, hnv⟩ : ∃ x, t.vals.length = x := ⟨_, rfl⟩
  obtain ⟨qv, hqv⟩ : ∃ x, q.v = x := ⟨_, rfl⟩
  obtain ⟨qk, hqk⟩ : ∃ x, q.k = x := ⟨_, rfl⟩
  obtain ⟨qu, hqu⟩ : ∃ x, q.u = x := ⟨_, rfl⟩
  rw [hnv] at hv
  rw [hqv, hnv] at ev
  subst ev
  have HD := Lib.hid (show rc t q = [I tk, .slice Ac nv cc, qk, qu, I tf, .bool tg] by simp [rc, htk, hqv, hqk, hqu, htf, htg])
  rw [htk, hqv, hqk, hqu, htf, htg] at hW
  have HA1 : Hid (Arr W bx 77 [I tk, .slice Ac nv cc, qk, qu, I tf, .bool tg]) := Lib.hid (by have := HA0.out; rw [htk, hqv, hqk, hqu, htf, htg] at this; exact this)
  have HNV := Lib.hid hnv
  rw [htk, hqv, hqk, hqu, htf, htg]
  have HTF := Lib.hid htf
  have HTK := Lib.hid htk
  have HTG := Lib.hid htg
  clear h ht hG hM0 hA0 hb0 hpb hq htk htf htg hnv hqk hqu hqv hr
  go_enter Try.func35, Try.ntmps35
  go_upto_if 9 with fail
  clear hbx hW
  go_cut [10] (fun s10 wx => ∃ (M1 : RM) (f : Int), RmW wx F p M1 lv qs ∧ Arr wx bx 77 [I tk, .slice Ac nv cc, qk, qu, I f, .bool tg] ∧ Chg (fun k => F k ∨ k = bx) W wx ∧ M1.l = M.l ∧ makeR M t stack = ({ M1 with l := M1.l ++ [{ t with frame := f }] }, (M.l.length : Int) + 1, 0))
  case first =>
    cases stack with
    | true =>
      obtain ⟨_, c1, _, _, _⟩ := HM0.out.cell
      have b4 : W.cell? ⟨bx, 4, none⟩ = some (I tf) := by rw [HA1.out.cell]; rfl
      have f4 : W.frozen? ⟨bx, 4, none⟩ = false := HA1.out.frozen 4
      go_wp2_with fail
      go_meet
      case rel =>
        exact ⟨M, M.frames, HM0.out.kept (fun k hk => Below.heap_setCell _ _ _ _ (fun e => hbF.out (by rw [← (show k = bx from e)]; exact hk))) (by simp), HA1.out.set 4 (I M.frames), (Chg.refl (fun k => F k ∨ k = bx) W).set (a := ⟨bx, 4, none⟩) (.inr rfl) _, rfl, rfl⟩
    | false =>
      have b1 : W.cell? ⟨bx, 1, none⟩ = some (.slice Ac nv cc) := by rw [HA1.out.cell]; rfl
      obtain ⟨_, _, c2, c3, c4⟩ := HM0.out.cell
      have f3 := HM0.out.arr.frozen 3
      have f4 := HM0.out.arr.frozen 4
      obtain ⟨u0, ul, hl, m0, m1, _, _, _⟩ := HRR.out
      have hw1 : IntKind.i64.wrap (M.limit - M.used) = M.limit - M.used := IntWalk.i64_in _ ⟨by omega, by omega⟩
      by_cases hroom : 8 + 8 * (nv : Int) ≤ M.limit - M.used
      · have hd : decide (M.limit - M.used < 8 + 8 * (nv : Int)) = false := de_f (by omega)
        have HROOM := Lib.hid hroom
        have hw2 : IntKind.i64.wrap (M.used + (8 + 8 * (nv : Int))) = M.used + (8 + 8 * (nv : Int)) := IntWalk.i64_in _ ⟨by omega, by omega⟩
        have hw3 : IntKind.i64.wrap (M.makes + 1) = M.makes + 1 := IntWalk.i64_in _ ⟨by omega, by omega⟩
        clear hroom
        go_wp2_with fail
        go_quiet (fail)
        go_wp2_with fail
        refine wp_region_y (fun w' => w'.cell? ⟨p, 3, none⟩ = some (I M.used) ∧ w'.cell? ⟨p, 4, none⟩ = some (I M.makes)) [15, 18] (by kernel_rfl) ?_
        have hS0 : ((W.drewN nq).drew).cell? ⟨p, 3, none⟩ = some (I M.used) ∧ ((W.drewN nq).drew).cell? ⟨p, 4, none⟩ = some (I M.makes) := ⟨c3, c4⟩
        refine wpY_pure (i := 0) (v := ?_) rfl (by kernel_rfl) (fun _ _ _ h => h) (Or.inl ⟨rfl, ?_⟩) (fun _ => hS0) ?_
        rotate_left
        · intro W _
          go_simp
          try (with_reducible rfl)
        refine wpY_pure (i := 1) (v := ?_) rfl (by kernel_rfl) (fun _ _ _ h => h) (Or.inl ⟨rfl, ?_⟩) (fun _ => hS0) ?_
        rotate_left
        · intro W _
          go_simp
          try (with_reducible rfl)
        refine wpY_pure (i := 2) (v := ?_) rfl (by kernel_rfl) (fun _ _ _ h => h) (Or.inl ⟨rfl, ?_⟩) (fun _ => hS0) ?_
        rotate_left
        · intro W _
          go_simp
          try (with_reducible rfl)
        refine wpY_pure (i := 3) (v := ?_) rfl (by kernel_rfl) (fun _ _ _ h => h) (Or.inl ⟨rfl, ?_⟩) (fun _ => hS0) ?_
        rotate_left
        · intro W _
          go_simp
          try (with_reducible rfl)
        refine wpY_pure (i := 4) (v := ?_) rfl (by kernel_rfl) (fun _ _ _ h => h) (Or.inl ⟨rfl, ?_⟩) (fun _ => hS0) ?_
        rotate_left
        · intro W _
          go_simp
          try (with_reducible rfl)
        refine wpY_take (i := 5) (v := ?_) rfl (by kernel_rfl) (fun _ _ _ h => h) (Or.inl ⟨rfl, ?_⟩) hS0 ?_
        rotate_left
        · rintro W ⟨s0, s1⟩
          go_simp
          try (with_reducible rfl)
        refine wpY_pure (i := 6) (v := ?_) rfl (by kernel_rfl) (fun _ _ _ h => h) (Or.inl ⟨rfl, ?_⟩) (fun _ => hS0) ?_
        rotate_left
        · intro W _
          go_simp
          try (with_reducible rfl)
        refine wpY_pure (i := 7) (v := ?_) rfl (by kernel_rfl) (fun _ _ _ h => h) (Or.inl ⟨rfl, ?_⟩) (fun _ => hS0) ?_
        rotate_left
        · intro W _
          go_simp
          try (with_reducible rfl)
        refine wpY_pure (i := 8) (v := ?_) rfl (by kernel_rfl) (fun _ _ _ h => h) (Or.inl ⟨rfl, ?_⟩) (fun _ => hS0) ?_
        rotate_left
        · intro W _
          go_simp
          try (with_reducible rfl)
        refine wpY_pure (i := 9) (v := ?_) rfl (by kernel_rfl) (fun _ _ _ h => h) (Or.inl ⟨rfl, ?_⟩) (fun _ => hS0) ?_
        rotate_left
        · intro W _
          go_simp
          try (with_reducible rfl)
        refine wpY_pure (i := 10) (v := ?_) rfl (by kernel_rfl) (fun _ _ _ h => h) (Or.inl ⟨rfl, ?_⟩) (fun _ => hS0) ?_
        rotate_left
        · intro W _
          go_simp
          try (with_reducible rfl)
        refine wpY_take (i := 11) (v := ?_) rfl (by kernel_rfl) (fun _ _ _ h => h) (Or.inl ⟨rfl, ?_⟩) hS0 ?_
        rotate_left
        · rintro W ⟨s0, s1⟩
          go_simp
          try (with_reducible rfl)
        refine wpY_pure (i := 12) (v := ?_) rfl (by kernel_rfl) (fun _ _ _ h => h) (Or.inl ⟨rfl, ?_⟩) (fun _ => hS0) ?_
        rotate_left
        · intro W _
          go_simp
          try (with_reducible rfl)
        refine wpY_pure (i := 13) (v := ?_) rfl (by kernel_rfl) (fun _ _ _ h => h) (Or.inl ⟨rfl, ?_⟩) (fun _ => hS0) ?_
        rotate_left
        · intro W _
          go_simp
          try (with_reducible rfl)
        refine wpY_pure (i := 14) (v := ?_) rfl (by kernel_rfl) (fun _ _ _ h => h) (Or.inl ⟨rfl, ?_⟩) (fun _ => hS0) ?_
        rotate_left
        · intro W _
          go_simp
          try (with_reducible rfl)
        refine wpY_one (i := 15) rfl (by kernel_rfl) (fun K hK => ?_)
        go_simp
        refine hK _ _ (noz_no (by kernel_rfl)) ?_
        clear hK K
        refine wpY_pure (i := 16) (v := ?_) rfl (by kernel_rfl) (fun _ _ _ h => h) (Or.inl ⟨rfl, ?_⟩) (noz_no (by kernel_rfl)) ?_
        rotate_left
        · intro W _
          go_simp
          try (with_reducible rfl)
        refine wpY_pure (i := 17) (v := ?_) rfl (by kernel_rfl) (fun _ _ _ h => h) (Or.inl ⟨rfl, ?_⟩) (noz_no (by kernel_rfl)) ?_
        rotate_left
        · intro W _
          go_simp
          try (with_reducible rfl)
        refine wpY_one (i := 18) rfl (by kernel_rfl) (fun K hK => ?_)
        go_simp
        refine hK _ _ (noz_no (by kernel_rfl)) ?_
        clear hK K
        refine wpY_done (by kernel_rfl) ?_ _
        go_wp2_with fail
        go_meet
        case rel =>
          have hm3 := RmW.word (M' := { M with used := M.used + (8 + 8 * (nv : Int)) }) (HM0.out.drewN nq).drew 3 (I (M.used + (8 + 8 * (nv : Int)))) rfl rfl
          have hm4 := RmW.word (M' := { M with used := M.used + (8 + 8 * (nv : Int)), makes := M.makes + 1 }) hm3 4 (I (M.makes + 1)) rfl rfl
          have hA := (HA1.out.other (a := ⟨p, 3, none⟩) HPB.out.symm (I (M.used + (8 + 8 * (nv : Int))))).other (a := ⟨p, 4, none⟩) HPB.out.symm (I (M.makes + 1))
          refine ⟨_, tf, hm4, ⟨hA.out⟩, ((((Chg.refl (fun k => F k ∨ k = bx) W).drewN nq).drew).set (a := ⟨p, 3, none⟩) (.inl HM0.out.fp) _).set (a := ⟨p, 4, none⟩) (.inl HM0.out.fp) _, rfl, ?_⟩
          rw [makeR, if_neg (by simp), if_pos (by rw [HNV.out]; exact HROOM.out)]
          simp only [← HTF.out, ← HNV.out]
      · have hd : decide (M.limit - M.used < 8 + 8 * (nv : Int)) = true := de_t (by omega)
        have HROOM := Lib.hid hroom
        clear hroom
        go_wp2_with fail
        go_quiet (fail)
        go_wp2_with fail
        go_ret2
        have hmf : makeR M t false = (M, 0, 4) := by rw [makeR, if_neg (by simp), if_neg (by rw [HNV.out]; have := HROOM.out; omega)]
        refine ⟨F, lv, qs, by rw [hmf]; rfl, by rw [hmf]; exact HM0.out.drewN nq, ?_, fun k hk => .inl hk⟩
        have := ((Chg.refl F w).alloc (.cells #[I t.kind, q.v, q.k, q.u, I t.frame, .bool t.gone] 77)).drewN nq
        rw [HW.out] at this
        exact this
  case rest =>
    obtain ⟨M1, f, hM1, hA1, hC1, hT1, hE1⟩ := hcut
    have HE1 := Lib.hid hE1
    have hll : M1.l.length ≤ 1000000000 := by rw [hT1]; exact HRR.out.ll
    obtain ⟨nl, hnl⟩ : ∃ n, M1.l.length = n := ⟨_, rfl⟩
    have hto : wc.ownsRow 0 77 6 lv nl (rcs M1.l qs) := by rw [← hnl]; exact hM1.row
    have hts : (M.l.length : Int) = nl := by rw [← hT1, hnl]
    have HTS := Lib.hid hts
    rw [hnl] at hll
    obtain ⟨At, ct, rfl, ht1, ht2⟩ := (Rd.of_own hto).form
    obtain ⟨c0, _, _, _, _⟩ := hM1.cell
    have f0 := hM1.arr.frozen 0
    have b0 : wc.cell? ⟨bx, 0, none⟩ = some (I tk) := by rw [hA1.cell]; rfl
    have b1 : wc.cell? ⟨bx, 1, none⟩ = some (.slice Ac nv cc) := by rw [hA1.cell]; rfl
    have b2 : wc.cell? ⟨bx, 2, none⟩ = some qk := by rw [hA1.cell]; rfl
    have b3 : wc.cell? ⟨bx, 3, none⟩ = some qu := by rw [hA1.cell]; rfl
    have b4 : wc.cell? ⟨bx, 4, none⟩ = some (I f) := by rw [hA1.cell]; rfl
    have b5 : wc.cell? ⟨bx, 5, none⟩ = some (.bool tg) := by rw [hA1.cell]; rfl
    have HTO := Lib.hid hto
    have HM1 := Lib.hid hM1
    have HC1 := Lib.hid hC1
    have HNL := Lib.hid hnl
    have hpl := hM1.lt p hM1.fp
    have HA2 := Lib.hid hA1
    clear hE1 hM1 hA1 hC1 hT1 hto hnl hts HM0
    go_upto_region 7 with fail
    refine wp_region_z (fun w' => w'.cell? ⟨p, 0, none⟩ = some (.slice At nl ct) ∧ w'.cell? ⟨bx, 0, none⟩ = some (I tk) ∧ w'.cell? ⟨bx, 1, none⟩ = some (.slice Ac nv cc) ∧ w'.cell? ⟨bx, 2, none⟩ = some qk ∧ w'.cell? ⟨bx, 3, none⟩ = some qu ∧ w'.cell? ⟨bx, 4, none⟩ = some (I f) ∧ w'.cell? ⟨bx, 5, none⟩ = some (.bool tg)) 10 (by kernel_rfl) ?_
    have hS0 : wc.drew.cell? ⟨p, 0, none⟩ = some (.slice At nl ct) ∧ wc.drew.cell? ⟨bx, 0, none⟩ = some (I tk) ∧ wc.drew.cell? ⟨bx, 1, none⟩ = some (.slice Ac nv cc) ∧ wc.drew.cell? ⟨bx, 2, none⟩ = some qk ∧ wc.drew.cell? ⟨bx, 3, none⟩ = some qu ∧ wc.drew.cell? ⟨bx, 4, none⟩ = some (I f) ∧ wc.drew.cell? ⟨bx, 5, none⟩ = some (.bool tg) := ⟨c0, b0, b1, b2, b3, b4, b5⟩
    refine wpZ_take (i := 0) (v := ?_) rfl (by kernel_rfl) (fun _ _ _ h => h) (Or.inl ⟨rfl, ?_⟩) hS0 ?_
    rotate_left
    · rintro W ⟨s0, s1, s2, s3, s4, s5, s6⟩
      go_simp
      try (with_reducible rfl)
    refine wpZ_take (i := 1) (v := ?_) rfl (by kernel_rfl) (fun _ _ _ h => h) (Or.inl ⟨rfl, ?_⟩) hS0 ?_
    rotate_left
    · rintro W ⟨s0, s1, s2, s3, s4, s5, s6⟩
      go_simp
      try (with_reducible rfl)
    refine wpZ_take (i := 2) (v := ?_) rfl (by kernel_rfl) (fun _ _ _ h => h) (Or.inl ⟨rfl, ?_⟩) hS0 ?_
    rotate_left
    · rintro W ⟨s0, s1, s2, s3, s4, s5, s6⟩
      go_simp
      try (with_reducible rfl)
    refine wpZ_take (i := 3) (v := ?_) rfl (by kernel_rfl) (fun _ _ _ h => h) (Or.inl ⟨rfl, ?_⟩) hS0 ?_
    rotate_left
    · rintro W ⟨s0, s1, s2, s3, s4, s5, s6⟩
      go_simp
      try (with_reducible rfl)
    refine wpZ_take (i := 4) (v := ?_) rfl (by kernel_rfl) (fun _ _ _ h => h) (Or.inl ⟨rfl, ?_⟩) hS0 ?_
    rotate_left
    · rintro W ⟨s0, s1, s2, s3, s4, s5, s6⟩
      go_simp
      try (with_reducible rfl)
    refine wpZ_take (i := 5) (v := ?_) rfl (by kernel_rfl) (fun _ _ _ h => h) (Or.inl ⟨rfl, ?_⟩) hS0 ?_
    rotate_left
    · rintro W ⟨s0, s1, s2, s3, s4, s5, s6⟩
      go_simp
      try (with_reducible rfl)
    refine wpZ_one (i := 6) rfl (by kernel_rfl) (fun K hK => ?_)
    go_simp
    refine hK _ _ (fun _ => ⟨cell_later _ c0, cell_later _ b0, cell_later _ b1, cell_later _ b2, cell_later _ b3, cell_later _ b4, cell_later _ b5⟩) ?_
    clear hK K hS0
    have hone : ∀ c ∈ ([I tk, .slice Ac nv cc, qk, qu, I f, .bool tg] : List Value), c.oneCell' = true := fun c hc => by
      have h1 := rc_one HT.out
      rw [HD.out] at h1
      simp only [List.mem_cons, List.not_mem_nil, or_false] at hc
      rcases hc with e | e | e | e | e | e
      · rw [e]; rfl
      · rw [e]; rfl
      · exact h1 c (by simp [e])
      · exact h1 c (by simp [e])
      · rw [e]; rfl
      · rw [e]; rfl
    have hnp : some p ≠ (Value.slice At nl ct).ownBlock := fun e => by
      obtain ⟨cur, hc⟩ := own_type HTO.out e.symm
      exact ne_type hc HM1.out.arr.out (by decide) rfl
    have hnb : some bx ≠ (Value.slice At nl ct).ownBlock := fun e => hbF.out (HM1.out.rowF bx e.symm)
    refine wpZ_one (i := 7) rfl (by kernel_rfl) (fun K hK => ?_)
    refine step_append (by rfl) _ _ _ (by rfl) E50 (by rfl) ((HTO.out.alloc _).drew) (ad := ⟨wc.heap.size, 0, none⟩) (m := 1) (c := 1) (news := [I tk, .slice Ac nv cc, qk, qu, I f, .bool tg]) (by rfl) (by rfl) (World.news_of_block (cs := #[I tk, .slice Ac nv cc, qk, qu, I f, .bool tg]) (t := 77) (fr := (0, 0)) (heap_alloc_new wc _)) hone (by omega) (by simp only [maxLen]; omega) (by omega) (by simp) ?_
    intro g' cap' w1 hap
    have hS1 : w1.cell? ⟨p, 0, none⟩ = some (.slice At nl ct) ∧ w1.cell? ⟨bx, 0, none⟩ = some (I tk) ∧ w1.cell? ⟨bx, 1, none⟩ = some (.slice Ac nv cc) ∧ w1.cell? ⟨bx, 2, none⟩ = some qk ∧ w1.cell? ⟨bx, 3, none⟩ = some qu ∧ w1.cell? ⟨bx, 4, none⟩ = some (I f) ∧ w1.cell? ⟨bx, 5, none⟩ = some (.bool tg) :=
      ⟨hap.grew.cell (cell_later _ c0) hnp, hap.grew.cell (cell_later _ b0) hnb, hap.grew.cell (cell_later _ b1) hnb, hap.grew.cell (cell_later _ b2) hnb, hap.grew.cell (cell_later _ b3) hnb, hap.grew.cell (cell_later _ b4) hnb, hap.grew.cell (cell_later _ b5) hnb⟩
    have d0 : w1.frozen? ⟨p, 0, none⟩ = false := (hap.grew.frozen_far ⟨p, 0, none⟩ (by simp; omega) hnp).trans (frozen_later _ f0 hpl)
    refine hK _ _ (fun _ => hS1) ?_
    clear hK K
    refine wpZ_take (i := 8) (v := ?_) rfl (by kernel_rfl) (fun _ _ _ h => h) (Or.inl ⟨rfl, ?_⟩) hS1 ?_
    rotate_left
    · rintro W ⟨s0, s1, s2, s3, s4, s5, s6⟩
      go_simp
      try (with_reducible rfl)
    refine wpZ_take (i := 9) (v := ?_) rfl (by kernel_rfl) (fun _ _ _ h => h) (Or.inl ⟨rfl, ?_⟩) hS1 ?_
    rotate_left
    · rintro W ⟨s0, s1, s2, s3, s4, s5, s6⟩
      go_simp
      try (with_reducible rfl)
    have d1 := hS1.1
    clear hS1 c0 b0 b1 b2 b3 b4 b5 f0
    refine wpZ_one (i := 10) rfl (by kernel_rfl) (fun K hK => ?_)
    go_simp
    refine hK _ _ (fun h => absurd rfl h) ?_
    clear hK K
    refine wpZ_done (by kernel_rfl) ?_ _
    have d2 : (w1.setCell ⟨p, 0, none⟩ (.slice (some ⟨g', 0, none⟩) (nl + 1) cap')).cell? ⟨p, 0, none⟩ = some (.slice (some ⟨g', 0, none⟩) (nl + 1) cap') := World.cell?_setCell_same _ _ _ d1
    have HAP := Lib.hid hap
    clear d0 d1 hap hone hnp hnb
    go_wp2
    go_ret2
    have hBw : Chg (fun k => k = bx) w W := by rw [← HW.out]; exact (Chg.refl _ w).alloc _
    have hWC : Chg (fun k => F k ∨ k = bx) w wc := hBw.trans HC1.out (fun _ h => .inr h) (fun _ h _ => h)
    have hTh : RtW ((wc.alloc (.cells #[I tk, .slice Ac nv cc, qk, qu, I f, .bool tg] 77)).drew) G { t with frame := f } q := by
      have h1 := HT.out.kept (w' := (wc.alloc (.cells #[I tk, .slice Ac nv cc, qk, qu, I f, .bool tg] 77)).drew) (G := G) (fun a k he => by
        have hg := HG.out k (HT.out.sF a k he)
        have e1 := hWC.block k hg.1 (fun h => by rcases h with h | h; exact hg.2 h; have := HBX.out; omega)
        rw [← e1]
        exact Below.heap_alloc _ _ _ (Nat.lt_of_lt_of_le hg.1 hWC.size)) (fun a k he => HT.out.sF a k he)
      exact ⟨h1.v, h1.k, h1.u, h1.sF⟩
    have hMW := (HM1.out.below (below_alloc wc (.cells #[I tk, .slice Ac nv cc, qk, qu, I f, .bool tg] 77))).drew
    have hrc : rc { t with frame := f } q = [I tk, .slice Ac nv cc, qk, qu, I f, .bool tg] := by
      have := HD.out
      simp only [rc, List.cons.injEq] at this ⊢
      exact ⟨this.1, this.2.1, this.2.2.1, this.2.2.2.1, trivial, this.2.2.2.2.2.1, trivial⟩
    have hput := RmW.putThing (n := nl + 1) (t := { t with frame := f }) hMW hTh (fun k hk => ⟨by have := (HG.out k hk).1; have := hWC.size; simp; omega, (HG.out k hk).2⟩) HQ.out (by rw [HNL.out]) (by rw [hrc]; exact HAP.out)
    refine ⟨_, _, _, by rw [HE1.out, HTS.out]; rfl, by rw [HE1.out]; exact hput, ?_, fun k hk => ?_⟩
    · have h1 : Chg (fun k => F k ∨ k = bx) w (w1.setCell ⟨p, 0, none⟩ (.slice (some ⟨g', 0, none⟩) (nl + 1) cap')) :=
        (((hWC.alloc _).drew).grown HAP.out.grew (fun k e _ => .inl (HM1.out.rowF k e))).set (a := ⟨p, 0, none⟩) (.inl HM1.out.fp) _
      exact h1.mono (fun k hk h => by
        rcases h with h | h
        · exact h
        · have := HBX.out; omega)
    · rcases hk with hk | hk | hk
      · exact .inl hk
      · exact .inr (.inl hk)
      · rcases HAP.out.lies with h1 | h1
        · rw [h1] at hk; exact .inl (HM1.out.rowF k hk)
        · rw [h1] at hk; cases hk
          have := hWC.size
          exact .inr (.inr (by simp; omega))
end Go.Proofs.Ytakpikoffbgjfaa
