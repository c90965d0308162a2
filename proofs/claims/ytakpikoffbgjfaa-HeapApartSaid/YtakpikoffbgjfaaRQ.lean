import Derived.Test.YtakpikoffbgjfaaRP
namespace Go.Proofs.Ytakpikoffbgjfaa
open Go.RowKit Go.Maps

/-- A thing of the memory and one of the reference are the same one; all lies on the stack. -/
structure TA (frames : List Int) (last : Int) (t : Th) (s : RT) : Prop where
  kind : (t.tab = false ∧ s.kind = 0 ∧ t.keys = []) ∨ (t.tab = true ∧ s.kind = 1 ∧ t.vals = [])
  vals : s.vals = t.vals
  keys : s.keys = t.keys
  under : s.under = t.keys.map t.under
  nodup : t.keys.Nodup
  none : ∀ k, k ∉ t.keys → t.under k = 0
  fr0 : 0 < t.frame
  fr1 : t.frame ≤ last
  gone : (s.gone = true ∧ t.frame ∉ frames) ∨ (s.gone = false ∧ ∃ d : Nat, s.frame = (d : Int) + 1 ∧ frames[d]? = some t.frame)
structure Agree (M : HM) (R : RM) : Prop where
  len : M.things.length = R.l.length
  each : ∀ (i : Nat) (t : Th) (s : RT), M.things[i]? = some t → R.l[i]? = some s → TA M.frames M.last t s
  fr : R.frames = (M.frames.length : Int)
  u : M.used = 0
  m : M.makes = 0
  fp : ∀ f ∈ M.frames, 0 < f
theorem agree_get {M : HM} {R : RM} (h : Agree M R) {i : Nat} {t : Th} (ht : M.things[i]? = some t) : ∃ s, R.l[i]? = some s ∧ TA M.frames M.last t s := by
  have hi : i < R.l.length := by rw [← h.len]; exact (List.getElem?_eq_some_iff.1 ht).1
  exact ⟨_, List.getElem?_eq_getElem hi, h.each i t _ ht (List.getElem?_eq_getElem hi)⟩
theorem agree_no {M : HM} {R : RM} (h : Agree M R) {i : Nat} (ht : M.things[i]? = none) : R.l[i]? = none := by
  rw [List.getElem?_eq_none_iff] at ht ⊢
  rw [← h.len]; exact ht
/-- Whether it can be asked is alike. -/
theorem agree_why {M : HM} {R : RM} (h : Agree M R) (r : Int) (b : Bool) : whyR R r (if b then 1 else 0) = whyF M r b := by
  unfold whyR whyF
  by_cases h1 : r < 1
  · rw [if_pos h1, if_pos h1]
  · rw [if_neg h1, if_neg h1]
    cases ht : M.things[(r - 1).toNat]? with
    | none => rw [agree_no h ht]
    | some t =>
      obtain ⟨s, hs, ta⟩ := agree_get h ht
      rw [hs]
      simp only
      have hk : (s.kind ≠ if b then 1 else 0) ↔ ¬ t.tab = b := by
        rcases ta.kind with ⟨e1, e2, _⟩ | ⟨e1, e2, _⟩ <;> cases b <;> simp [e1, e2]
      by_cases htb : t.tab = b
      · rw [if_neg (fun e => (hk.1 e) htb), if_pos htb]
        rcases ta.gone with ⟨g1, g2⟩ | ⟨g1, d, g2, g3⟩
        · rw [g1, if_pos rfl, if_pos ⟨ta.fr0, g2⟩]
        · have := List.mem_of_getElem? g3
          rw [g1, if_neg (by simp), if_neg (fun e => e.2 this)]
      · rw [if_pos (hk.2 htb), if_neg htb]
theorem whyF_some {M : HM} {r : Int} {b : Bool} (h : whyF M r b = 0) : ∃ (j : Nat) (t : Th), r = (j : Int) + 1 ∧ M.things[j]? = some t ∧ t.tab = b := by
  obtain ⟨j, t, e1, e2⟩ := why_thing h
  exact ⟨j, t, e1, e2, why_tab h e1 e2⟩
theorem sub1 (j : Nat) : ((j : Int) + 1 - 1).toNat = j := by omega
theorem agree_getV {M : HM} {R : RM} (h : Agree M R) (r i : Int) : rgetF R r i = (getV M r i, valF M r i) := by
  have hw := agree_why h r false
  simp only [Bool.false_eq_true, if_false] at hw
  unfold rgetF getV valF
  rw [hw]
  by_cases h0 : whyF M r false = 0
  · obtain ⟨j, t, rfl, ht, htb⟩ := whyF_some h0
    obtain ⟨s, hs, ta⟩ := agree_get h ht
    rw [if_neg (by simp [h0]), sub1, hs, ht]
    simp only [h0, ne_eq, not_true_eq_false, if_false]
    rw [ta.vals]
    by_cases hi : i < 0 ∨ (t.vals.length : Int) ≤ i
    · rw [if_pos hi, if_pos (by rw [if_pos hi]; decide), if_pos hi]
    · rw [if_neg hi, if_neg (by rw [if_neg hi]; simp), if_neg hi]
      rfl
  · rw [if_pos h0]
    simp only [ne_eq, h0, not_false_eq_true, if_true]
theorem agree_size {M : HM} {R : RM} (h : Agree M R) (r : Int) : rsizeF R r = sizeF M r := by
  unfold rsizeF sizeF
  by_cases h1 : r < 1
  · have e : ∀ b, whyF M r b = 6 := fun b => by unfold whyF; rw [if_pos h1]
    rw [if_pos h1, e, e]; simp
  · rw [if_neg h1]
    cases ht : M.things[(r - 1).toNat]? with
    | none =>
      have e : ∀ b, whyF M r b = 6 := fun b => by unfold whyF; rw [if_neg h1, ht]
      rw [agree_no h ht, e, e]; simp
    | some t =>
      obtain ⟨s, hs, ta⟩ := agree_get h ht
      rw [hs]
      simp only
      have hwf : ∀ b, whyF M r b = if t.tab = b then (if 0 < t.frame ∧ t.frame ∉ M.frames then 5 else 0) else 6 := fun b => by unfold whyF; rw [if_neg h1, ht]
      rw [hwf, hwf, ta.vals, ta.keys]
      rcases ta.kind with ⟨e1, _, e3⟩ | ⟨e1, _, e3⟩ <;> rcases ta.gone with ⟨g1, g2⟩ | ⟨g1, d, g2, g3⟩
      · simp [e1, g1, g2, ta.fr0]
      · have hm := List.mem_of_getElem? g3
        simp [e1, e3, g1, hm]
      · simp [e1, g1, g2, ta.fr0]
      · have hm := List.mem_of_getElem? g3
        simp [e1, e3, g1, hm]
theorem agree_key {M : HM} {R : RM} (h : Agree M R) (r i : Int) : rkeyF R r i = keyF M r i := by
  have hw := agree_why h r true
  simp only [if_true] at hw
  unfold rkeyF keyF
  rw [hw]
  by_cases h0 : whyF M r true = 0
  · obtain ⟨j, t, rfl, ht, htb⟩ := whyF_some h0
    obtain ⟨s, hs, ta⟩ := agree_get h ht
    rw [if_neg (by simp [h0]), if_neg (by simp [h0]), sub1, hs, ht]
    simp only [ta.keys]
  · rw [if_pos h0, if_pos h0]
theorem find_in {l : List Int} {k : Int} (h : k ∈ l) : findR l k = l.idxOf k := by rw [findR, if_pos h]
theorem find_out {l : List Int} {k : Int} (h : k ∉ l) : findR l k = -1 := by rw [findR, if_neg h]
theorem idx_get {l : List Int} {k : Int} (h : k ∈ l) : l[l.idxOf k]? = some k := by
  have hl := List.idxOf_lt_length_of_mem h
  rw [List.getElem?_eq_getElem hl, List.getElem_idxOf]
theorem agree_look {M : HM} {R : RM} (h : Agree M R) (r k : Int) : rlookF R r k = lookF M r k := by
  have hw := agree_why h r true
  simp only [if_true] at hw
  unfold rlookF lookF
  rw [hw]
  by_cases h0 : whyF M r true = 0
  · obtain ⟨j, t, rfl, ht, htb⟩ := whyF_some h0
    obtain ⟨s, hs, ta⟩ := agree_get h ht
    rw [if_neg (by simp [h0]), if_neg (by simp [h0]), sub1, hs, ht]
    simp only [ta.keys, ta.under, Option.map_some, Option.getD_some]
    by_cases hk : k ∈ t.keys
    · rw [find_in hk, if_pos (by omega), Int.toNat_natCast, List.getElem?_map, idx_get hk]; rfl
    · rw [find_out hk, if_neg (by omega), ta.none k hk]
  · rw [if_pos h0, if_pos h0]
/-- One thing is changed, on both sides. -/
theorem Agree.setAt {M : HM} {R : RM} (h : Agree M R) (j : Nat) {t : Th} {s : RT} (ta : TA M.frames M.last t s) : Agree { M with things := M.things.set j t } { R with l := R.l.set j s } := by
  refine ⟨by simp [h.len], fun i t' s' ht hs => ?_, h.fr, h.u, h.m, h.fp⟩
  by_cases hi : i = j
  · subst hi
    have hl1 : i < M.things.length := by have := (List.getElem?_eq_some_iff.1 ht).1; simpa using this
    have hl2 : i < R.l.length := by rw [← h.len]; exact hl1
    simp only at ht hs
    rw [List.getElem?_set_self hl1] at ht
    rw [List.getElem?_set_self hl2] at hs
    cases ht; cases hs
    exact ta
  · simp only at ht hs
    rw [List.getElem?_set_ne (fun e => hi e.symm)] at ht hs
    exact h.each i t' s' ht hs
theorem agree_set {M : HM} {R : RM} (h : Agree M R) (r i : Int) (v : VV) : (setF M r i v).2 = (rsetF R r i v).2 ∧ Agree (setF M r i v).1 (rsetF R r i v).1 := by
  have hg := agree_getV h r i
  have hg2 : (rgetF R r i).2 = valF M r i := by rw [hg]
  unfold setF rsetF
  rw [hg2]
  by_cases h0 : valF M r i = 0
  · have hw0 : whyF M r false = 0 := by
      unfold valF at h0
      split at h0
      · exact absurd h0 (by assumption)
      · rename_i hw; simpa using hw
    obtain ⟨j, t, rfl, ht, htb⟩ := whyF_some hw0
    obtain ⟨s, hs, ta⟩ := agree_get h ht
    rw [if_neg (by simp [h0]), if_neg (by simp [h0]), sub1, hs, ht]
    refine ⟨rfl, h.setAt j ⟨?_, by simp [ta.vals], ta.keys, ta.under, ta.nodup, ta.none, ta.fr0, ta.fr1, ta.gone⟩⟩
    rcases ta.kind with e | ⟨e1, _, _⟩
    · exact .inl e
    · rw [htb] at e1; cases e1
  · rw [if_pos h0, if_pos h0]
    exact ⟨rfl, h⟩
theorem under_set {l : List Int} {f : Int → Int} {key n : Int} (hn : l.Nodup) (hk : key ∈ l) : (l.map f).set (l.idxOf key) n = l.map (fun x => if x = key then n else f x) := by
  apply List.ext_getElem?
  intro i
  have hl := List.idxOf_lt_length_of_mem hk
  by_cases hi : i = l.idxOf key
  · subst hi
    rw [List.getElem?_set_self (by simpa using hl), List.getElem?_map, idx_get hk]
    simp
  · rw [List.getElem?_set_ne (fun e => hi e.symm), List.getElem?_map, List.getElem?_map]
    cases hx : l[i]? with
    | none => rfl
    | some x =>
      have hne : x ≠ key := by
        intro e
        subst e
        obtain ⟨hi1, e1⟩ := List.getElem?_eq_some_iff.1 hx
        have h2 : l[l.idxOf x]'hl = l[i] := by rw [List.getElem_idxOf, e1]
        have hp := List.pairwise_iff_getElem.1 hn
        rcases Nat.lt_trichotomy i (l.idxOf x) with h | h | h
        · exact hp i _ hi1 hl h h2.symm
        · exact hi h
        · exact hp _ i hl hi1 h h2
      simp [hne]
theorem agree_put {M : HM} {R : RM} (h : Agree M R) (r key n : Int) : (putF M r key n).2 = (rputF R r key n).2 ∧ Agree (putF M r key n).1 (rputF R r key n).1 := by
  have hw := agree_why h r true
  simp only [if_true] at hw
  unfold putF rputF
  rw [hw]
  by_cases h0 : whyF M r true = 0
  · obtain ⟨j, t, rfl, ht, htb⟩ := whyF_some h0
    obtain ⟨s, hs, ta⟩ := agree_get h ht
    have hsg : s.gone = false := by
      cases hg : s.gone with
      | false => rfl
      | true =>
        have h2 : whyR R ((j : Int) + 1) 1 = 0 := by rw [hw]; exact h0
        obtain ⟨j2, t2, e1, e2, _, e4⟩ := whyR_thing h2
        have : j = j2 := by omega
        subst this
        rw [hs] at e2; cases e2
        rw [hg] at e4; exact e4
    have hsf : s.frame ≠ 0 := by
      rcases ta.gone with ⟨g1, _⟩ | ⟨_, d, g2, _⟩
      · rw [hsg] at g1; cases g1
      · omega
    have htf := ta.fr0
    rw [if_neg (by simp [h0]), if_neg (by simp [h0]), sub1, hs, ht]
    simp only
    rw [if_pos (.inr (by omega)), if_pos (.inr hsf)]
    refine ⟨rfl, h.setAt j ?_⟩
    have hv : t.vals = [] := by
      rcases ta.kind with ⟨e, _⟩ | ⟨_, _, e⟩
      · rw [htb] at e; cases e
      · exact e
    by_cases hk : key ∈ t.keys
    · have e1 : rputT s key n = { s with under := s.under.set (t.keys.idxOf key) n } := by
        rw [rputT, ta.keys, find_in hk, if_pos (by omega), Int.toNat_natCast]
      have e2 : putT t key n = { t with under := fun x => if x = key then n else t.under x } := by
        unfold putT; rw [if_pos hk]
      rw [e1, e2]
      refine ⟨ta.kind, ta.vals, ta.keys, by simp only [ta.under]; exact under_set ta.nodup hk, ta.nodup, fun k hk2 => ?_, ta.fr0, ta.fr1, ta.gone⟩
      simp only
      rw [if_neg (fun e : k = key => hk2 (e ▸ hk))]
      exact ta.none k hk2
    · have e1 : rputT s key n = { s with keys := s.keys ++ [key], under := s.under ++ [n] } := by
        rw [rputT, ta.keys, find_out hk, if_neg (by omega)]
      have e2 : putT t key n = { t with keys := t.keys ++ [key], under := fun x => if x = key then n else t.under x } := by
        unfold putT; rw [if_neg hk]
      rw [e1, e2]
      refine ⟨?_, ta.vals, by simp [ta.keys], ?_, ?_, fun k hk2 => ?_, ta.fr0, ta.fr1, ta.gone⟩
      · rcases ta.kind with ⟨e, _⟩ | e
        · rw [htb] at e; cases e
        · exact .inr e
      · simp only [ta.under, List.map_append, List.map_cons, List.map_nil, if_true]
        congr 1
        refine List.map_congr_left (fun x hx => ?_)
        rw [if_neg (fun e : x = key => hk (e ▸ hx))]
      · simp only
        rw [List.nodup_append]
        exact ⟨ta.nodup, by simp, fun a ha b hb => by simp at hb; subst hb; intro e; exact hk (e ▸ ha)⟩
      · simp only [List.mem_append, List.mem_singleton, not_or] at hk2 ⊢
        rw [if_neg hk2.2]
        exact ta.none k hk2.1
  · rw [if_pos h0, if_pos h0]
    exact ⟨rfl, h⟩
theorem eqV_refl (v : VV) : eqV v v = true := by simp [eqV]
theorem agree_asks {M : HM} {R : RM} (h : Agree M R) (a : AC) : (asksF a M R).1 = true ∧ Agree (asksF a M R).2.1 (asksF a M R).2.2 := by
  unfold asksF
  repeat' split
  · rw [agree_getV h]; exact ⟨by simp [eqV_refl], h⟩
  · have := agree_set h a.r a.i a.v; exact ⟨by simp [this.1], this.2⟩
  · rw [agree_size h]; exact ⟨by simp, h⟩
  · have := agree_put h a.r a.i a.n; exact ⟨by simp [this.1], this.2⟩
  · rw [agree_look h]; exact ⟨by simp, h⟩
  · rw [agree_key h]; exact ⟨by simp, h⟩
  · exact ⟨rfl, h⟩
theorem agree_enter {c : Nat} {M : HM} {R : RM} (hM : SmallM c M) (h : Agree M R) : Agree (enterM M) (enterR R) := by
  refine ⟨h.len, fun i t s ht hs => ?_, ?_, h.u, h.m, fun f hf => ?_⟩
  · have ta := h.each i t s ht hs
    refine ⟨ta.kind, ta.vals, ta.keys, ta.under, ta.nodup, ta.none, ta.fr0, by have := ta.fr1; show t.frame ≤ M.last + 1; omega, ?_⟩
    rcases ta.gone with ⟨g1, g2⟩ | ⟨g1, d, g2, g3⟩
    · refine .inl ⟨g1, ?_⟩
      show t.frame ∉ M.frames ++ [M.last + 1]
      rw [List.mem_append, List.mem_singleton, not_or]
      exact ⟨g2, by have := ta.fr1; omega⟩
    · refine .inr ⟨g1, d, g2, ?_⟩
      show (M.frames ++ [M.last + 1])[d]? = _
      rw [List.getElem?_append_left (List.getElem?_eq_some_iff.1 g3).1]
      exact g3
  · show R.frames + 1 = ((M.frames ++ [M.last + 1]).length : Int)
    rw [h.fr]; simp
  · have hf' : f ∈ M.frames ++ [M.last + 1] := hf
    rcases List.mem_append.1 hf' with h1 | h1
    · exact h.fp f h1
    · simp at h1; have := hM.l0; omega
theorem agree_leave {c : Nat} {M : HM} {R : RM} (hM : SmallM c M) (h : Agree M R) : decide (2 ≤ M.frames.length) = (leaveR R).2 ∧ Agree (leaveM M) (leaveR R).1 := by
  have hne : 0 < M.frames.length := List.length_pos_iff.2 hM.fne
  unfold leaveM leaveR
  by_cases h2 : 2 ≤ M.frames.length
  · have hR : ¬ R.frames = 1 := by rw [h.fr]; omega
    rw [if_pos h2, if_neg hR]
    refine ⟨by simp [h2], by simp [h.len], fun i t s ht hs => ?_, ?_, h.u, h.m, fun f hf => h.fp f (List.dropLast_subset _ hf)⟩
    · simp only [List.getElem?_map, Option.map_eq_some_iff] at hs
      obtain ⟨s0, hs0, rfl⟩ := hs
      have ta := h.each i t s0 ht hs0
      have base : (goneR R.frames s0).kind = s0.kind ∧ (goneR R.frames s0).vals = s0.vals ∧ (goneR R.frames s0).keys = s0.keys ∧ (goneR R.frames s0).under = s0.under ∧ (goneR R.frames s0).frame = s0.frame := by
        unfold goneR; split <;> simp
      refine ⟨by rw [base.1]; exact ta.kind, by rw [base.2.1]; exact ta.vals, by rw [base.2.2.1]; exact ta.keys, by rw [base.2.2.2.1]; exact ta.under, ta.nodup, ta.none, ta.fr0, ta.fr1, ?_⟩
      rcases ta.gone with ⟨g1, g2⟩ | ⟨g1, d, g2, g3⟩
      · refine .inl ⟨?_, fun e => g2 (List.dropLast_subset _ e)⟩
        unfold goneR; split
        · rfl
        · exact g1
      · obtain ⟨hd, e3⟩ := List.getElem?_eq_some_iff.1 g3
        by_cases hdl : d + 1 = M.frames.length
        · refine .inl ⟨?_, fun e => ?_⟩
          · unfold goneR; rw [if_pos (by rw [g2, h.fr]; omega)]
          · obtain ⟨k, hk, ek⟩ := List.mem_iff_getElem.1 e
            rw [List.length_dropLast] at hk
            rw [List.getElem_dropLast] at ek
            have hp := List.pairwise_iff_getElem.1 hM.sorted k d (by omega) hd (by omega)
            omega
        · refine .inr ⟨?_, d, by rw [base.2.2.2.2]; exact g2, ?_⟩
          · unfold goneR; rw [if_neg (by rw [g2, h.fr]; omega)]; exact g1
          · rw [List.getElem?_dropLast, if_pos (by omega)]; exact g3
    · show R.frames - 1 = (M.frames.dropLast.length : Int)
      rw [List.length_dropLast, h.fr]; omega
  · have hR : R.frames = 1 := by rw [h.fr]; omega
    rw [if_neg h2, if_pos hR]
    exact ⟨by simp [h2], h⟩
theorem last_get {l : List Int} (h : l ≠ []) : l[l.length - 1]? = some (l.getLastD 0) := by
  rw [List.getLastD_eq_getLast?, ← List.getLast?_eq_getElem?]
  rw [List.getLast?_eq_some_getLast h]; rfl
theorem agree_made {c : Nat} {M : HM} {R : RM} (hM : SmallM c M) (h : Agree M R) (t : Th) (s : RT) (hk : (t.tab = false ∧ s.kind = 0 ∧ t.keys = []) ∨ (t.tab = true ∧ s.kind = 1 ∧ t.vals = [])) (hv : s.vals = t.vals) (hks : t.keys = []) (hks2 : s.keys = []) (hun : s.under = []) (ht0 : ∀ k, t.under k = 0) (hg : s.gone = false) :
    (madeF M t true).2 = (makeR R s true).2 ∧ Agree (madeF M t true).1 (makeR R s true).1 := by
  unfold madeF makeR
  rw [if_pos rfl, if_pos rfl]
  refine ⟨by simp [h.len], by simp [h.len], fun i t' s' ht hs => ?_, h.fr, h.u, h.m, h.fp⟩
  simp only [List.getElem?_append] at ht hs
  by_cases hi : i < M.things.length
  · rw [if_pos hi] at ht
    rw [if_pos (by rw [← h.len]; exact hi)] at hs
    exact h.each i t' s' ht hs
  · rw [if_neg hi] at ht
    rw [if_neg (by rw [← h.len]; exact hi), ← h.len] at hs
    cases hj : i - M.things.length with
    | succ j => rw [hj] at ht; simp at ht
    | zero =>
      rw [hj] at ht hs
      simp at ht hs
      subst ht hs
      have hl := last_get hM.fne
      rw [List.getLastD_eq_getLast?] at hl
      have hmem := List.mem_of_getElem? hl
      have hne : 0 < M.frames.length := List.length_pos_iff.2 hM.fne
      refine ⟨hk, hv, by rw [hks]; exact hks2, by rw [hks]; exact hun, by rw [hks]; exact List.nodup_nil, fun k _ => ht0 k, h.fp _ hmem, hM.fb _ hmem, .inr ⟨hg, M.frames.length - 1, ?_, hl⟩⟩
      show R.frames = _
      rw [h.fr]; omega
theorem agree_does {c : Nat} {M : HM} {R : RM} (hM : SmallM c M) (h : Agree M R) (a : AC) (hs : a.stack = true) : (doesF a M R).1 = true ∧ Agree (doesF a M R).2.1 (doesF a M R).2.2 := by
  unfold doesF
  rw [hs]
  repeat' split
  · exact ⟨by simp [h.fr], agree_enter hM h⟩
  · have := agree_leave hM h; exact ⟨by simp [this.1], this.2⟩
  · have := agree_made hM h (hobjT (objL a)) (objT (objL a)) (.inl ⟨rfl, rfl, rfl⟩) rfl rfl rfl rfl (fun _ => rfl) rfl
    exact ⟨by simp [this.1], this.2⟩
  · unfold sliceF rsliceF
    split
    · exact ⟨by simp, h⟩
    · have := agree_made hM h (sliceT a.n.toNat) (objT (List.replicate a.n.toNat V0)) (.inl ⟨rfl, rfl, rfl⟩) rfl rfl rfl rfl (fun _ => rfl) rfl
      exact ⟨by simp [this.1], this.2⟩
  · have := agree_made hM h tableT tabT (.inr ⟨rfl, rfl, rfl⟩) rfl rfl rfl rfl (fun _ => rfl) rfl
    exact ⟨by simp [this.1], this.2⟩
  · exact agree_asks h a
theorem agree_start : Agree (M0 1048576) (rM0 1048576) := ⟨rfl, fun i t s ht => by simp [M0] at ht, rfl, rfl, rfl, by simp [M0]⟩
end Go.Proofs.Ytakpikoffbgjfaa
