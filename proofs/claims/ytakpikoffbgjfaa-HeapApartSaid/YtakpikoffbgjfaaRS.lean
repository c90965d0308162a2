import Derived.Test.YtakpikoffbgjfaaRR
namespace Go.Proofs.Ytakpikoffbgjfaa
open Go.RowKit Go.Maps

theorem same_why {M M' : HM} {r : Int} (hf : M'.frames = M.frames) (h : M'.things[(r - 1).toNat]? = M.things[(r - 1).toNat]?) (b : Bool) : whyF M' r b = whyF M r b := by
  unfold whyF; rw [h, hf]
theorem same_val {M M' : HM} {r : Int} (hf : M'.frames = M.frames) (h : M'.things[(r - 1).toNat]? = M.things[(r - 1).toNat]?) (i : Int) : valF M' r i = valF M r i := by
  unfold valF; rw [same_why hf h, h]
theorem same_tell {M M' : HM} {r : Int} (hf : M'.frames = M.frames) (h : M'.things[(r - 1).toNat]? = M.things[(r - 1).toNat]?) : tellF M' r = tellF M r := by
  have hs : sizeF M' r = sizeF M r := by unfold sizeF; rw [same_why hf h, same_why hf h, h]
  have hk : ∀ i, keyF M' r i = keyF M r i := fun i => by unfold keyF; rw [same_why hf h, h]
  have hl : ∀ i, lookF M' r i = lookF M r i := fun i => by unfold lookF; rw [same_why hf h, h]
  have hv := same_val hf h
  have hg : ∀ i, getV M' r i = getV M r i := fun i => by unfold getV; rw [hv, h]
  have hi : ∀ i, itemF M' r i = itemF M r i := fun i => by unfold itemF; rw [hv, hk, hl, hg]
  unfold tellF headF tellN
  rw [hs]
  congr 1
  exact List.map_congr_left (fun i _ => hi i)
theorem set_frames (M : HM) (r i : Int) (v : VV) : (setF M r i v).1.frames = M.frames := by
  unfold setF
  repeat' split
  all_goals rfl
theorem put_frames (M : HM) (r k n : Int) : (putF M r k n).1.frames = M.frames := by
  unfold putF
  repeat' split
  all_goals rfl
theorem set_things {M : HM} {r0 i r : Int} {v : VV} (hr : 1 ≤ r) (hne : r ≠ r0) : (setF M r0 i v).1.things[(r - 1).toNat]? = M.things[(r - 1).toNat]? := by
  unfold setF
  split
  · rfl
  · rename_i h0
    split
    · rfl
    · have h1 : ¬ r0 < 1 := fun e => h0 (by unfold valF whyF; rw [if_pos e]; simp)
      show (M.things.set _ _)[_]? = _
      rw [List.getElem?_set_ne (by omega)]
theorem put_things {M : HM} {r0 k n r : Int} (hr : 1 ≤ r) (hne : r ≠ r0) : (putF M r0 k n).1.things[(r - 1).toNat]? = M.things[(r - 1).toNat]? := by
  unfold putF
  split
  · rfl
  · rename_i h0
    have h1 : ¬ r0 < 1 := fun e => h0 (by unfold whyF; rw [if_pos e]; simp)
    split
    · rfl
    · repeat' split
      · show (M.things.set _ _)[_]? = _
        rw [List.getElem?_set_ne (by omega)]
      · show (M.things.set _ _)[_]? = _
        rw [List.getElem?_set_ne (by omega)]
      · rfl
/-- The call that only sets. -/
def toSet (a : AC) : AC := if a.kind = 6 then a else { a with kind := 8 }
theorem toSet_does (a : AC) (M : HM) (R : RM) : (doesF (toSet a) M R).2.1 = (if a.kind = 6 then (setF M a.r a.i a.v).1 else (putF M a.r a.i a.n).1) := by
  unfold toSet
  by_cases h : a.kind = 6
  · rw [if_pos h, if_pos h]
    simp [doesF, asksF, h]
  · rw [if_neg h, if_neg h]
    simp [doesF, asksF]
theorem toSet_tell (a : AC) (M : HM) (R : RM) {r : Int} (hr : 1 ≤ r) (hne : r ≠ a.r) : tellF (doesF (toSet a) M R).2.1 r = tellF M r := by
  rw [toSet_does]
  split
  · exact same_tell (set_frames _ _ _ _) (set_things hr hne)
  · exact same_tell (put_frames _ _ _ _) (put_things hr hne)
theorem KeysOk.made {M : HM} (h : KeysOk M) {t : Th} (ht : t.keys = []) (b : Bool) : KeysOk (madeF M t b).1 := by
  unfold madeF
  repeat' split
  · intro t' h1 k hk
    rcases List.mem_append.1 h1 with h2 | h2
    · exact h t' h2 k hk
    · simp at h2; subst h2; simp [ht] at hk
  · intro t' h1 k hk
    rcases List.mem_append.1 h1 with h2 | h2
    · exact h t' h2 k hk
    · simp at h2; subst h2; simp [ht] at hk
  · exact h
theorem KeysOk.does {M : HM} {R : RM} {a : AC} (h : KeysOk M) (hi : (Lit.int .i64 a.i).wf = true) : KeysOk (doesF a M R).2.1 := by
  have hset : KeysOk (setF M a.r a.i a.v).1 := by
    unfold setF
    split
    · exact h
    · split
      · exact h
      · rename_i t ht
        intro t' h1 k hk
        rcases List.mem_or_eq_of_mem_set h1 with h2 | h2
        · exact h t' h2 k hk
        · subst h2; exact h t (List.mem_of_getElem? ht) k hk
  have hput : KeysOk (putF M a.r a.i a.n).1 := by
    unfold putF
    split
    · exact h
    · split
      · exact h
      · rename_i t ht
        have hone : ∀ k ∈ (putT t a.i a.n).keys, (Lit.int .i64 k).wf = true := fun k hk => by
          unfold putT at hk
          simp only at hk
          split at hk
          · exact h t (List.mem_of_getElem? ht) k hk
          · rcases List.mem_append.1 hk with h2 | h2
            · exact h t (List.mem_of_getElem? ht) k h2
            · simp at h2; subst h2; exact hi
        repeat' split
        · intro t' h1 k hk
          rcases List.mem_or_eq_of_mem_set h1 with h2 | h2
          · exact h t' h2 k hk
          · subst h2; exact hone k hk
        · intro t' h1 k hk
          rcases List.mem_or_eq_of_mem_set h1 with h2 | h2
          · exact h t' h2 k hk
          · subst h2; exact hone k hk
        · exact h
  unfold doesF
  repeat' split
  · exact h
  · show KeysOk (leaveM M)
    unfold leaveM
    split <;> exact h
  · exact h.made rfl _
  · show KeysOk (sliceF M a.n a.stack).1
    unfold sliceF
    split
    · exact h
    · exact h.made rfl _
  · exact h.made rfl _
  · unfold asksF
    repeat' split
    · exact h
    · exact hset
    · exact h
    · exact hput
    · exact h
    · exact h
    · exact h
theorem own_le {w : World} {base base' e sz n : Nat} {v : Value} {xs : List Value} (h : w.ownsRow base e sz v n xs) (hb : base' ≤ base) : w.ownsRow base' e sz v n xs := by
  refine ⟨h.1, ?_⟩
  rcases h.2 with hn | ⟨g', cap, cur, e1, hg, hh, hr⟩
  · exact .inl hn
  · exact .inr ⟨g', cap, cur, e1, Nat.le_trans hb hg, hh, hr⟩
/-- What was told, as slices of slices. -/
structure Was (w : World) (B : Nat) (X : Nat → Prop) (u : Value) (ls : List (List VV)) : Prop where
  ex : ∃ vs : List Value, vs.length = ls.length ∧ w.ownsRow B 53 1 u ls.length vs ∧ (∀ k, u.ownBlock = some k → ¬ X k) ∧
    ∀ (i : Nat) (v : Value) (l : List VV), vs[i]? = some v → ls[i]? = some l → w.ownsRow B 30 3 v l.length (vvs l) ∧ ∀ k, v.ownBlock = some k → ¬ X k
theorem Was.form {w : World} {B : Nat} {X : Nat → Prop} {u : Value} {ls : List (List VV)} (h : Was w B X u ls) : ∃ A c, u = .slice A ls.length c ∧ ls.length ≤ c ∧ c ≤ 9223372036854775807 := by
  obtain ⟨vs, h1, h2, _⟩ := h.ex
  exact (Rd.of_own h2).form
theorem Was.kept {w w' : World} {B : Nat} {X Y : Nat → Prop} {u : Value} {ls : List (List VV)} (h : Was w B X u ls) (hk : ∀ k, k < w.heap.size → ¬ X k → w'.heap[k]? = w.heap[k]?) (hY : ∀ k, k < w.heap.size → Y k → X k) : Was w' B Y u ls := by
  obtain ⟨vs, h1, h2, h3, h4⟩ := h.ex
  refine ⟨vs, h1, own_kept h2 (fun k hb => hk k (h2.lt k hb).2 (h3 k hb)), fun k hb hy => h3 k hb (hY k (h2.lt k hb).2 hy), fun i v l hv hl => ?_⟩
  obtain ⟨h5, h6⟩ := h4 i v l hv hl
  exact ⟨own_kept h5 (fun k hb => hk k (h5.lt k hb).2 (h6 k hb)), fun k hb hy => h6 k hb (hY k (h5.lt k hb).2 hy)⟩
theorem Was.below {w w' : World} {B : Nat} {X : Nat → Prop} {u : Value} {ls : List (List VV)} (h : Was w B X u ls) (hb : Below w.heap.size w w') : Was w' B X u ls :=
  h.kept (fun k hk _ => hb.block k hk) (fun _ _ h => h)
theorem Was.put {w w1 : World} {B n : Nat} {X : Nat → Prop} {u u' v : Value} {ls : List (List VV)} {l : List VV} {o : Obj} {vs : List Value} (h1 : vs.length = ls.length) (h2 : w.ownsRow B 53 1 u ls.length vs) (h3 : ∀ k, u.ownBlock = some k → ¬ X k)
    (h4 : ∀ (i : Nat) (v : Value) (l : List VV), vs[i]? = some v → ls[i]? = some l → w.ownsRow B 30 3 v l.length (vvs l) ∧ ∀ k, v.ownBlock = some k → ¬ X k) (hn : ls.length + 1 = n) (hv : w.ownsRow B 30 3 v l.length (vvs l)) (hvx : ∀ k, v.ownBlock = some k → ¬ X k)
    (hX : ∀ k, X k → k < w.heap.size) (hap : Ap B 53 1 (w.alloc o) w1 u u' n (vs ++ [v])) : Was w1 B X u' (ls ++ [l]) := by
  subst hn
  have hrow : ∀ (v : Value) (l : List VV), w.ownsRow B 30 3 v l.length (vvs l) → w1.ownsRow B 30 3 v l.length (vvs l) := fun v l hv => own_kept hv (fun k hb => by
    have hl := (hv.lt k hb).2
    obtain ⟨c1, e1⟩ := own_type hv hb
    rw [hap.grew.block k (by simp; omega) (fun e => by
      obtain ⟨c2, e2⟩ := own_type h2 e.symm
      exact ne_type e1 e2 (by decide) rfl)]
    exact Below.heap_alloc _ _ _ hl)
  refine ⟨vs ++ [v], by simp [h1], by simpa using hap.own, fun k hb hx => ?_, fun i v' l' hv' hl' => ?_⟩
  · rcases hap.lies with e | e
    · rw [e] at hb; exact h3 k hb hx
    · rw [e] at hb; cases hb; have := hX _ hx; simp at this; omega
  · simp only [List.getElem?_append] at hv' hl'
    by_cases hi : i < ls.length
    · rw [if_pos (by omega)] at hv'
      rw [if_pos hi] at hl'
      obtain ⟨h5, h6⟩ := h4 i v' l' hv' hl'
      exact ⟨hrow _ _ h5, h6⟩
    · rw [if_neg (by omega), h1] at hv'
      rw [if_neg hi] at hl'
      cases hj : i - ls.length with
      | succ j => rw [hj] at hv'; simp at hv'
      | zero =>
        rw [hj] at hv' hl'
        simp at hv' hl'
        subst hv' hl'
        exact ⟨hrow _ _ hv, hvx⟩
/-- A block of another type is changed. -/
theorem Was.other {w w' : World} {B bx : Nat} {X : Nat → Prop} {u : Value} {ls : List (List VV)} {c : Array Value} {fr : Nat × Nat} (h : Was w B X u ls) (hb : w.heap[bx]? = some (.cells c 45 fr)) (hk : ∀ k, k ≠ bx → w'.heap[k]? = w.heap[k]?) : Was w' B X u ls := by
  obtain ⟨vs, h1, h2, h3, h4⟩ := h.ex
  refine ⟨vs, h1, own_kept h2 (fun k hb' => hk k ?_), h3, fun i v l hv hl => ?_⟩
  · obtain ⟨c1, e1⟩ := own_type h2 hb'
    exact ne_type e1 hb (by decide)
  · obtain ⟨h5, h6⟩ := h4 i v l hv hl
    refine ⟨own_kept h5 (fun k hb' => hk k ?_), h6⟩
    obtain ⟨c1, e1⟩ := own_type h5 hb'
    exact ne_type e1 hb (by decide)
/-- A row of what was told. -/
theorem Was.row {w : World} {B n cap : Nat} {X : Nat → Prop} {A : Option Addr} {ls : List (List VV)} {i : Nat} {l : List VV} (h : Was w B X (.slice A n cap) ls) (hl : ls[i]? = some l) :
    ∃ g v, A = some ⟨g, 0, none⟩ ∧ w.cell? ⟨g, i, none⟩ = some v ∧ w.ownsRow B 30 3 v l.length (vvs l) := by
  obtain ⟨vs, h1, h2, h3, h4⟩ := h.ex
  have hi : i < ls.length := (List.getElem?_eq_some_iff.1 hl).1
  obtain ⟨v, hv⟩ : ∃ v, vs[i]? = some v := ⟨_, List.getElem?_eq_getElem (by omega)⟩
  obtain ⟨g, cap', e, _, _⟩ := h2.form (by omega)
  cases e
  have := h2.cells (g := g) rfl i v hv
  rw [add_plain', Nat.zero_add] at this
  exact ⟨g, v, rfl, this, (h4 i v l hv hl).1⟩
end Go.Proofs.Ytakpikoffbgjfaa
