import Derived.Test.YtakpikoffbgjfaaRO
namespace Go.Proofs.Ytakpikoffbgjfaa
open Go.RowKit Go.Maps

structure SmallM (c : Nat) (M : HM) : Prop where
  th : M.things.length ≤ c
  fl : M.frames.length ≤ c + 1
  fne : M.frames ≠ []
  sorted : M.frames.Pairwise (· < ·)
  fb : ∀ f ∈ M.frames, f ≤ M.last
  l0 : 0 ≤ M.last
  l1 : M.last ≤ c + 1
  m0 : 0 ≤ M.makes
  m1 : M.makes ≤ c
  room : Room M
  ks : ∀ t ∈ M.things, t.keys.length ≤ c
structure SmallR (c : Nat) (R : RM) : Prop where
  ll : R.l.length ≤ c
  f0 : 1 ≤ R.frames
  f1 : R.frames ≤ c + 1
  u0 : 0 ≤ R.used
  ul : R.used ≤ R.limit
  li : R.limit ≤ 16777216
  m0 : 0 ≤ R.makes
  m1 : R.makes ≤ c
  ts : ∀ t ∈ R.l, t.vals.length ≤ 1024 ∧ t.keys.length ≤ c
theorem small_okay {c : Nat} {M : HM} {R : RM} (h : SmallM c M) (k : SmallR c R) (hc : c ≤ 1000) : Okay M R := by
  have h1 := h.th
  have h2 := h.fl
  have h3 := h.l1
  have h4 := h.m1
  have k1 := k.ll
  have k2 := k.f1
  have k3 := k.m1
  have k4 := k.f0
  exact ⟨⟨h.room, h.fne, by omega, by omega, h.m0, by omega⟩, h.sorted, h.l0, by omega, fun t ht => by have := h.ks t ht; omega, ⟨k.u0, k.ul, k.li, k.m0, by omega, by omega, by omega, by omega⟩, fun t ht => by have := k.ts t ht; omega⟩
theorem SmallM.up {c : Nat} {M : HM} (h : SmallM c M) : SmallM (c + 1) M :=
  ⟨by have := h.th; omega, by have := h.fl; omega, h.fne, h.sorted, h.fb, h.l0, by have := h.l1; omega, h.m0, by have := h.m1; omega, h.room, fun t ht => by have := h.ks t ht; omega⟩
theorem SmallR.up {c : Nat} {R : RM} (h : SmallR c R) : SmallR (c + 1) R :=
  ⟨by have := h.ll; omega, h.f0, by have := h.f1; omega, h.u0, h.ul, h.li, h.m0, by have := h.m1; omega, fun t ht => by have := h.ts t ht; omega⟩
theorem SmallM.enter {c : Nat} {M : HM} (h : SmallM c M) : SmallM (c + 1) (enterM M) := by
  refine ⟨by have := h.th; show M.things.length ≤ _; omega, by have := h.fl; show (M.frames ++ [M.last + 1]).length ≤ _; simp; omega, by show M.frames ++ [M.last + 1] ≠ []; simp, ?_, fun f hf => ?_, by have := h.l0; show 0 ≤ M.last + 1; omega, by have := h.l1; show M.last + 1 ≤ _; omega, h.m0, by have := h.m1; show M.makes ≤ _; omega, ⟨h.room.u0, h.room.ul, h.room.l⟩, fun t ht => by have := h.ks t ht; omega⟩
  · show (M.frames ++ [M.last + 1]).Pairwise _
    rw [List.pairwise_append]
    exact ⟨h.sorted, by simp, fun a ha b hb => by have := h.fb a ha; simp at hb; omega⟩
  · show f ≤ M.last + 1
    have hf' : f ∈ M.frames ++ [M.last + 1] := hf
    rcases List.mem_append.1 hf' with h1 | h1
    · have := h.fb f h1; omega
    · simp at h1; omega
theorem SmallM.leave {c : Nat} {M : HM} (h : SmallM c M) : SmallM (c + 1) (leaveM M) := by
  unfold leaveM
  split
  · rename_i h2
    have hl : M.frames.dropLast.length = M.frames.length - 1 := by simp
    refine ⟨by have := h.th; show M.things.length ≤ _; omega, by have := h.fl; show M.frames.dropLast.length ≤ _; omega, by show M.frames.dropLast ≠ []; intro e; rw [e] at hl; simp at hl; omega, ?_, fun f hf => h.fb f (List.dropLast_subset _ hf), h.l0, by have := h.l1; show M.last ≤ _; omega, h.m0, by have := h.m1; show M.makes ≤ _; omega, ⟨h.room.u0, h.room.ul, h.room.l⟩, fun t ht => by have := h.ks t ht; omega⟩
    exact h.sorted.sublist (List.dropLast_sublist _)
  · exact h.up
theorem SmallM.made {c : Nat} {M : HM} (h : SmallM c M) (t : Th) (ht : t.keys = []) (stack : Bool) : SmallM (c + 1) (madeF M t stack).1 := by
  unfold madeF
  split
  · refine ⟨by have := h.th; simp; omega, by have := h.fl; show M.frames.length ≤ _; omega, h.fne, h.sorted, h.fb, h.l0, by have := h.l1; show M.last ≤ _; omega, h.m0, by have := h.m1; show M.makes ≤ _; omega, ⟨h.room.u0, h.room.ul, h.room.l⟩, fun t' ht' => ?_⟩
    rcases List.mem_append.1 ht' with h1 | h1
    · have := h.ks t' h1; omega
    · simp at h1; subst h1; simp [ht]
  · split
    · rename_i hr
      have h1 := h.room.u0
      have h2 := h.room.ul
      refine ⟨by have := h.th; simp; omega, by have := h.fl; show M.frames.length ≤ _; omega, h.fne, h.sorted, h.fb, h.l0, by have := h.l1; show M.last ≤ _; omega, by have := h.m0; show 0 ≤ M.makes + 1; omega, by have := h.m1; show M.makes + 1 ≤ _; omega, ⟨by show 0 ≤ M.used + _; omega, by show M.used + _ ≤ M.limit; omega, h.room.l⟩, fun t' ht' => ?_⟩
      rcases List.mem_append.1 ht' with h1 | h1
      · have := h.ks t' h1; omega
      · simp at h1; subst h1; simp [ht]
    · exact h.up
theorem SmallM.setAt {c : Nat} {M : HM} (h : SmallM c M) {j : Nat} {t : Th} (ht : t.keys.length ≤ c + 1) {u : Int} (hu : 0 ≤ u) (hl : u ≤ M.limit) : SmallM (c + 1) { M with used := u, things := M.things.set j t } := by
  refine ⟨by have := h.th; simp; omega, by have := h.fl; show M.frames.length ≤ _; omega, h.fne, h.sorted, h.fb, h.l0, by have := h.l1; show M.last ≤ _; omega, h.m0, by have := h.m1; show M.makes ≤ _; omega, ⟨hu, hl, h.room.l⟩, fun t' ht' => ?_⟩
  rcases List.mem_or_eq_of_mem_set ht' with h1 | h1
  · have := h.ks t' h1; omega
  · subst h1; exact ht
theorem SmallM.setV {c : Nat} {M : HM} (h : SmallM c M) (r i : Int) (v : VV) : SmallM (c + 1) (setF M r i v).1 := by
  unfold setF
  split
  · exact h.up
  · split
    · exact h.up
    · rename_i t ht
      exact h.setAt (by have := h.ks t (List.mem_of_getElem? ht); show t.keys.length ≤ _; omega) h.room.u0 h.room.ul
theorem putT_len (t : Th) (key n : Int) : (putT t key n).keys.length ≤ t.keys.length + 1 := by
  unfold putT
  simp only
  split <;> simp
theorem SmallM.put {c : Nat} {M : HM} (h : SmallM c M) (r key n : Int) : SmallM (c + 1) (putF M r key n).1 := by
  unfold putF
  split
  · exact h.up
  · split
    · exact h.up
    · rename_i t ht
      have h1 := putT_len t key n
      have h2 := h.ks t (List.mem_of_getElem? ht)
      split
      · exact h.setAt (by omega) h.room.u0 h.room.ul
      · split
        · have := h.room.u0
          exact h.setAt (by omega) (by omega) (by omega)
        · exact h.up
theorem SmallR.enter {c : Nat} {R : RM} (h : SmallR c R) : SmallR (c + 1) (enterR R) :=
  ⟨by have := h.ll; show R.l.length ≤ _; omega, by have := h.f0; show 1 ≤ R.frames + 1; omega, by have := h.f1; show R.frames + 1 ≤ _; omega, h.u0, h.ul, h.li, h.m0, by have := h.m1; show R.makes ≤ _; omega, fun t ht => by have := h.ts t ht; omega⟩
theorem SmallR.leave {c : Nat} {R : RM} (h : SmallR c R) : SmallR (c + 1) (leaveR R).1 := by
  unfold leaveR
  split
  · exact h.up
  · have h0 := h.f0
    refine ⟨by have := h.ll; simp; omega, by show 1 ≤ R.frames - 1; omega, by have := h.f1; show R.frames - 1 ≤ _; omega, h.u0, h.ul, h.li, h.m0, by have := h.m1; show R.makes ≤ _; omega, fun t ht => ?_⟩
    obtain ⟨t0, h1, rfl⟩ := List.mem_map.1 ht
    have := h.ts t0 h1
    unfold goneR
    split <;> first | omega | (simp only; omega)
theorem SmallR.make {c : Nat} {R : RM} (h : SmallR c R) (t : RT) (hv : t.vals.length ≤ 1024) (ht : t.keys = []) (stack : Bool) : SmallR (c + 1) (makeR R t stack).1 := by
  have h1 := h.ll
  have h2 := h.f1
  have h3 := h.m1
  unfold makeR
  split
  · refine ⟨by simp; omega, h.f0, by show R.frames ≤ _; omega, h.u0, h.ul, h.li, h.m0, by show R.makes ≤ _; omega, fun t' ht' => ?_⟩
    rcases List.mem_append.1 ht' with h1 | h1
    · have := h.ts t' h1; omega
    · simp at h1; subst h1; simp [ht, hv]
  · split
    · have h4 := h.u0
      have h5 := h.m0
      refine ⟨by simp; omega, h.f0, by show R.frames ≤ _; omega, by show 0 ≤ R.used + _; omega, by show R.used + _ ≤ R.limit; omega, h.li, by show 0 ≤ R.makes + 1; omega, by show R.makes + 1 ≤ _; omega, fun t' ht' => ?_⟩
      rcases List.mem_append.1 ht' with h1 | h1
      · have := h.ts t' h1; omega
      · simp at h1; subst h1; simp [ht, hv]
    · exact h.up
theorem SmallR.setAt {c : Nat} {R : RM} (h : SmallR c R) {j : Nat} {t : RT} (ht : t.vals.length ≤ 1024 ∧ t.keys.length ≤ c + 1) {u : Int} (hu : 0 ≤ u) (hl : u ≤ R.limit) : SmallR (c + 1) { R with used := u, l := R.l.set j t } := by
  refine ⟨by have := h.ll; simp; omega, h.f0, by have := h.f1; show R.frames ≤ _; omega, hu, hl, h.li, h.m0, by have := h.m1; show R.makes ≤ _; omega, fun t' ht' => ?_⟩
  rcases List.mem_or_eq_of_mem_set ht' with h1 | h1
  · have := h.ts t' h1; omega
  · subst h1; exact ht
theorem SmallR.setV {c : Nat} {R : RM} (h : SmallR c R) (r i : Int) (v : VV) : SmallR (c + 1) (rsetF R r i v).1 := by
  unfold rsetF
  split
  · exact h.up
  · split
    · exact h.up
    · rename_i t ht
      have := h.ts t (List.mem_of_getElem? ht)
      exact h.setAt (by show (t.vals.set i.toNat v).length ≤ _ ∧ t.keys.length ≤ _; simp; omega) h.u0 h.ul
theorem rputT_len (t : RT) (key n : Int) : (rputT t key n).keys.length ≤ t.keys.length + 1 ∧ (rputT t key n).vals = t.vals := by
  unfold rputT
  split <;> simp
theorem SmallR.put {c : Nat} {R : RM} (h : SmallR c R) (r key n : Int) : SmallR (c + 1) (rputF R r key n).1 := by
  unfold rputF
  split
  · exact h.up
  · split
    · exact h.up
    · rename_i t ht
      obtain ⟨h1, h3⟩ := rputT_len t key n
      have h2 := h.ts t (List.mem_of_getElem? ht)
      split
      · exact h.setAt (by rw [h3]; omega) h.u0 h.ul
      · split
        · exact h.up
        · have := h.u0
          exact h.setAt (by rw [h3]; omega) (by omega) (by omega)
theorem objL_len (a : AC) : (objL a).length ≤ 1024 := by
  unfold objL
  rw [List.length_replicate]
  have := Int.tmod_lt_of_pos a.n (show (0 : Int) < 9 by omega)
  omega
theorem small_asks {c : Nat} {M : HM} {R : RM} (h : SmallM c M) (k : SmallR c R) (a : AC) : SmallM (c + 1) (asksF a M R).2.1 ∧ SmallR (c + 1) (asksF a M R).2.2 := by
  unfold asksF
  repeat' split
  · exact ⟨h.up, k.up⟩
  · exact ⟨h.setV _ _ _, k.setV _ _ _⟩
  · exact ⟨h.up, k.up⟩
  · exact ⟨h.put _ _ _, k.put _ _ _⟩
  · exact ⟨h.up, k.up⟩
  · exact ⟨h.up, k.up⟩
  · exact ⟨h.up, k.up⟩
theorem small_does {c : Nat} {M : HM} {R : RM} (h : SmallM c M) (k : SmallR c R) (a : AC) : SmallM (c + 1) (doesF a M R).2.1 ∧ SmallR (c + 1) (doesF a M R).2.2 := by
  unfold doesF
  repeat' split
  · exact ⟨h.enter, k.enter⟩
  · exact ⟨h.leave, k.leave⟩
  · exact ⟨h.made _ rfl _, k.make _ (objL_len a) rfl _⟩
  · constructor
    · show SmallM (c + 1) (sliceF M a.n a.stack).1
      unfold sliceF
      split
      · exact h.up
      · exact h.made _ rfl _
    · show SmallR (c + 1) (rsliceF R a.n a.stack).1
      unfold rsliceF
      split
      · exact k.up
      · exact k.make _ (by simp [objT]; omega) rfl _
  · exact ⟨h.made _ rfl _, k.make _ (by simp [tabT]) rfl _⟩
  · exact small_asks h k a
theorem small_start : SmallM 0 (M0 1048576) ∧ SmallR 0 (rM0 1048576) := by
  constructor
  · exact ⟨by decide, by decide, by decide, by simp [M0], by simp [M0], by decide, by decide, by decide, by decide, ⟨by decide, by decide, by decide⟩, by simp [M0]⟩
  · exact ⟨by decide, by decide, by decide, by decide, by decide, by decide, by decide, by decide, by simp [rM0]⟩
end Go.Proofs.Ytakpikoffbgjfaa
