import Derived.Test.YtakpikoffbgjfaaHB
namespace Go.Proofs.Ytakpikoffbgjfaa
open Go.RowKit

theorem tqs_append (a b : List TQ) : tqs (a ++ b) = tqs a ++ tqs b := by simp [tqs]
theorem tqs_length (a : List TQ) : (tqs a).length = a.length * 4 := by
  induction a with
  | nil => rfl
  | cons x l ih => simp only [tqs, List.flatMap_cons] at *; simp only [List.length_append, ih, TQ.cs, List.length_cons, List.length_nil]; omega
theorem TQ.cs_one {w : World} {F : Nat → Prop} {t : Th} {q : TQ} (h : ThW w F t q) : ∀ c ∈ q.cs, c.oneCell' = true := by
  intro c hc
  simp only [TQ.cs, List.mem_cons, List.not_mem_nil, or_false] at hc
  rcases hc with rfl | rfl | rfl | rfl
  · obtain ⟨A, cap, e, _⟩ := (Rd.of_own h.cells).form; rw [e]; rfl
  · obtain ⟨A, cap, e, _⟩ := (Rd.of_own h.keys).form; rw [e]; rfl
  · rcases h.map with ⟨_, e⟩ | ⟨_, b, D, e, _⟩ <;> rw [e] <;> rfl
  · rfl
/-- A thing is put behind the others. -/
theorem MemW.putThing {w w1 : World} {F G : Nat → Prop} {p n : Nat} {M : HM} {tv fv tv' : Value} {qs : List TQ} {t : Th} {q : TQ} (h : MemW w F p M tv fv qs) (ht : ThW w G t q) (hG : ∀ k, G k → k < w.heap.size ∧ ¬ F k)
    (hn : n = qs.length + 1) (hap : Ap 0 64 4 w w1 tv tv' n (tqs (qs ++ [q]))) :
    MemW (w1.setCell ⟨p, 0, none⟩ tv') (fun k => F k ∨ G k ∨ tv'.ownBlock = some k) p { M with things := M.things ++ [t] } tv' fv (qs ++ [q]) := by
  have hsz := hap.grew.size
  have hb : ∀ k, k < w.heap.size → k ≠ p → tv.ownBlock ≠ some k → (w1.setCell ⟨p, 0, none⟩ tv').heap[k]? = w.heap[k]? := fun k hk hp hf => (Below.heap_setCell _ _ _ _ hp).trans (hap.grew.block k hk (fun e => hf e.symm))
  have hpf : tv.ownBlock ≠ some p := fun e => by
    obtain ⟨cur, hc⟩ := own_type h.things e
    exact ne_type hc h.arr.out (by decide) rfl
  have hff : ∀ k, fv.ownBlock = some k → k ≠ p ∧ tv.ownBlock ≠ some k := fun k e => by
    obtain ⟨cur, hc⟩ := own_type h.frames e
    refine ⟨ne_type hc h.arr.out (by decide), fun e2 => ?_⟩
    obtain ⟨cur2, hc2⟩ := own_type h.things e2
    exact ne_type hc hc2 (by decide) rfl
  have hfp : ∀ k, tv'.ownBlock = some k → k ≠ p := fun k e => by
    have hp := h.lt p h.fp
    rcases hap.lies with h1 | h1
    · rw [h1] at e
      intro e2
      exact hpf (e2 ▸ e)
    · rw [h1] at e
      cases e
      omega
  have hth : ∀ {H : Nat → Prop} {t' : Th} {q' : TQ}, ThW w H t' q' → (∀ k, H k → k < w.heap.size) → (∀ k, H k → (F k ∨ G k ∨ tv'.ownBlock = some k)) → ThW (w1.setCell ⟨p, 0, none⟩ tv') (fun k => F k ∨ G k ∨ tv'.ownBlock = some k) t' q' := fun h' hl hi =>
    h'.kept (fun k hk he => hb k (hl k hk) (h'.off h.arr.out (by decide) (by decide) k he) (fun e => by
      obtain ⟨cur, hc⟩ := own_type h.things e
      exact h'.off hc (by decide) (by decide) k he rfl)) hi
  refine ⟨fun k hk => ?_, .inl h.fp, ?_, by simp [h.len], ?_, fun k e => .inr (.inr e), own_kept h.frames (fun k e => hb k (h.lt k (h.framesF k e)) (hff k e).1 (hff k e).2), fun k e => .inl (h.framesF k e), fun i t' q' ht' hq' => ?_, fun i j q1 q2 h1 h2 hij => ?_⟩
  · rcases hk with hk | hk | hk
    · have := h.lt k hk; simp; omega
    · have := (hG k hk).1; simp; omega
    · have := (hap.own.lt k hk).2; simpa using this
  · exact (h.arr.grown hap.grew (fun e => hpf e.symm)).set 0 tv'
  · have := own_kept hap.own (w' := w1.setCell ⟨p, 0, none⟩ tv') (fun k e => Below.heap_setCell _ _ _ _ (hfp k e))
    rw [hn] at this
    simpa using this
  · simp only [List.getElem?_append] at ht' hq'
    by_cases hi : i < M.things.length
    · rw [if_pos hi] at ht'
      rw [if_pos (by rw [h.len]; exact hi)] at hq'
      exact hth (h.each i t' q' ht' hq') (fun k hk => h.lt k hk) (fun k hk => .inl hk)
    · rw [if_neg hi] at ht'
      rw [if_neg (by rw [h.len]; exact hi)] at hq'
      rw [h.len] at hq'
      cases hj : i - M.things.length with
      | zero =>
        rw [hj] at ht' hq'
        simp at ht' hq'
        subst ht' hq'
        exact hth ht (fun k hk => (hG k hk).1) (fun k hk => .inr (.inl hk))
      | succ j => rw [hj] at ht'; simp at ht'
  · have old : ∀ (i : Nat) (q1 : TQ), qs[i]? = some q1 → (∀ k, q1.c.ownBlock = some k → F k) ∧ (∀ k, q1.k.ownBlock = some k → F k) ∧ (∀ k, q1.mb = some k → F k) := fun i q1 hq => by
      have hi : i < M.things.length := by rw [← h.len]; exact (List.getElem?_eq_some_iff.1 hq).1
      have ht1 := h.each i _ q1 (List.getElem?_eq_getElem hi) hq
      refine ⟨ht1.cellsF, ht1.keysF, fun k hk => ?_⟩
      rcases ht1.map with ⟨_, e⟩ | ⟨_, b, D, e, hF, _⟩
      · rw [TQ.mb, e] at hk; cases hk
      · rw [TQ.mb, e] at hk; cases hk; exact hF
    have new : (∀ k, q.c.ownBlock = some k → ¬ F k) ∧ (∀ k, q.k.ownBlock = some k → ¬ F k) ∧ (∀ k, q.mb = some k → ¬ F k) := by
      refine ⟨fun k hk => (hG k (ht.cellsF k hk)).2, fun k hk => (hG k (ht.keysF k hk)).2, fun k hk => ?_⟩
      rcases ht.map with ⟨_, e⟩ | ⟨_, b, D, e, hF, _⟩
      · rw [TQ.mb, e] at hk; cases hk
      · rw [TQ.mb, e] at hk; cases hk; exact (hG _ hF).2
    simp only [List.getElem?_append] at h1 h2
    have lst : ∀ (i : Nat) (q1 : TQ), (if i < qs.length then qs[i]? else [q][i - qs.length]?) = some q1 → qs[i]? = some q1 ∨ (i = qs.length ∧ q1 = q) := fun i q1 hq => by
      split at hq
      · exact .inl hq
      · rename_i hi
        cases hj : i - qs.length with
        | zero => rw [hj] at hq; simp at hq; exact .inr ⟨by omega, hq.symm⟩
        | succ j => rw [hj] at hq; simp at hq
    rcases lst i q1 h1 with a1 | ⟨a1, rfl⟩ <;> rcases lst j q2 h2 with a2 | ⟨a2, rfl⟩
    · exact h.apart i j q1 q2 a1 a2 hij
    · have o := old i q1 a1
      exact ⟨fun k e1 e2 => new.1 k e2 (o.1 k e1), fun k e1 e2 => new.2.1 k e2 (o.2.1 k e1), fun k e1 e2 => new.2.2 k e2 (o.2.2 k e1)⟩
    · have o := old j q2 a2
      exact ⟨fun k e1 e2 => new.1 k e1 (o.1 k e2), fun k e1 e2 => new.2.1 k e1 (o.2.1 k e2), fun k e1 e2 => new.2.2 k e1 (o.2.2 k e2)⟩
    · omega
end Go.Proofs.Ytakpikoffbgjfaa
