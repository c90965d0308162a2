import Derived.Test.YtcghkemfepnihaaLeaf
namespace Go.Proofs.Ytcghkemfepnihaa
open Go.RowKit

/-! ### how many edges away -/
/-- v is met from S along k edges. -/
def Rn (E : List (Int × Int)) (S : List Int) : Nat → Int → Prop
  | 0, v => v ∈ S
  | k + 1, v => ∃ u, (u, v) ∈ E ∧ Rn E S k u
structure IsDist (E : List (Int × Int)) (S : List Int) (n : Nat) (d : List Int) : Prop where
  len : d.length = n
  at_ : ∀ v : Nat, v < n → (d.getD v 0 = -1 ∧ ∀ k, ¬ Rn E S k v) ∨ (∃ k : Nat, d.getD v 0 = k ∧ Rn E S k v ∧ ∀ j, j < k → ¬ Rn E S j v)

/-- all edges and starts are nodes -/
structure Fits (n : Nat) (E : List (Int × Int)) (S : List Int) : Prop where
  e : ∀ p ∈ E, (0 ≤ p.1 ∧ p.1 < n) ∧ (0 ≤ p.2 ∧ p.2 < n)
  s : ∀ v ∈ S, 0 ≤ v ∧ v < n
theorem fits_of {n : Int} {E : List (Int × Int)} {S : List Int} (h : fitF n E S = 0) : ∃ m : Nat, n = m ∧ m ≤ 16384 ∧ Fits m E S := by
  unfold fitF at h
  split at h
  · omega
  · split at h
    · omega
    · split at h
      · omega
      · split at h
        · omega
        · rename_i h0 h1 h2 h3
          refine ⟨n.toNat, by omega, by omega, ⟨fun p hp => ?_, fun v hv => ?_⟩⟩
          · simp only [badE, List.any_eq_true, not_exists, not_and, Bool.not_eq_true, Bool.or_eq_false_iff] at h1
            obtain ⟨a, b⟩ := h1 p hp
            have := offB_false a
            have := offB_false b
            omega
          · simp only [badL, List.any_eq_true, not_exists, not_and, Bool.not_eq_true] at h2
            have := offB_false (h2 v hv)
            omega

/-- In round r, E's first i edges being done: the state of the reference's rounds. -/
structure InR (E : List (Int × Int)) (S : List Int) (n r i : Nat) (more : Bool) (d : List Int) : Prop where
  len : d.length = n
  at_ : ∀ v : Nat, v < n → (d.getD v 0 = -1 ∧ ∀ k, k ≤ r → ¬ Rn E S k v) ∨ (∃ k : Nat, k ≤ r + 1 ∧ d.getD v 0 = k ∧ Rn E S k v ∧ ∀ j, j < k → ¬ Rn E S j v)
  done : ∀ j, j < i → ∀ p, E[j]? = some p → d.getD p.1.toNat 0 = r → 0 ≤ d.getD p.2.toNat 0
  no : more = false → ∀ v : Nat, v < n → d.getD v 0 ≠ r + 1

def negs (d : List Int) : Nat := d.countP fun x => decide (x < 0)
theorem getD_set (d : List Int) (i j : Nat) (x : Int) (h : i < d.length) : (d.set i x).getD j 0 = if j = i then x else d.getD j 0 := by
  simp only [List.getD_eq_getElem?_getD, List.getElem?_set]
  by_cases e : i = j
  · subst e; simp [h]
  · simp [e, Ne.symm e, show ¬ j = i from fun h => e h.symm]
theorem negs_set {d : List Int} {i : Nat} {x : Int} (h : i < d.length) (hx : 0 ≤ x) (hd : d.getD i 0 < 0) : negs (d.set i x) + 1 = negs d := by
  induction d generalizing i with
  | nil => simp at h
  | cons a l ih =>
    cases i with
    | zero =>
      simp at hd
      simp [negs, List.countP_cons, hd, show ¬ x < 0 by omega]
    | succ i =>
      have := ih (i := i) (by simpa using h) (by simpa using hd)
      simp only [negs, List.set_cons_succ, List.countP_cons] at *
      omega

theorem inR_start {E : List (Int × Int)} {S : List Int} {n r : Nat} {d : List Int} (h : d.length = n)
    (ha : ∀ v : Nat, v < n → (d.getD v 0 = -1 ∧ ∀ k, k ≤ r → ¬ Rn E S k v) ∨ (∃ k : Nat, k ≤ r ∧ d.getD v 0 = k ∧ Rn E S k v ∧ ∀ j, j < k → ¬ Rn E S j v)) : InR E S n r 0 false d := by
  refine ⟨h, fun v hv => ?_, fun j hj => absurd hj (Nat.not_lt_zero _), fun _ v hv e => ?_⟩
  · rcases ha v hv with h | ⟨k, hk, h⟩
    · exact .inl h
    · exact .inr ⟨k, by omega, h⟩
  · rcases ha v hv with ⟨h, _⟩ | ⟨k, hk, h, _⟩ <;> omega

theorem inR_hit {E : List (Int × Int)} {S : List Int} {n r i : Nat} {m : Bool} {d : List Int} {p : Int × Int} (F : Fits n E S) (h : InR E S n r i m d) (hi : E[i]? = some p)
    (h1 : d.getD p.1.toNat 0 = r) (h2 : d.getD p.2.toNat 0 < 0) : InR E S n r (i + 1) true (d.set p.2.toNat (r + 1)) := by
  have hmem : p ∈ E := List.mem_of_getElem? hi
  obtain ⟨⟨a0, a1⟩, b0, b1⟩ := F.e p hmem
  have hpl : p.2.toNat < d.length := by rw [h.len]; omega
  have c1 : ((p.1.toNat : Nat) : Int) = p.1 := by omega
  have c2 : ((p.2.toNat : Nat) : Int) = p.2 := by omega
  refine ⟨by simpa using h.len, fun v hv => ?_, fun j hj q hq hqd => ?_, fun hm => by simp at hm⟩
  · rw [getD_set _ _ _ _ hpl]
    by_cases e : v = p.2.toNat
    · subst e
      rw [if_pos rfl]
      refine .inr ⟨r + 1, Nat.le_refl _, by omega, ?_, fun j hj => ?_⟩
      · rw [c2]
        refine ⟨p.1, hmem, ?_⟩
        rcases h.at_ p.1.toNat (by omega) with ⟨hx, _⟩ | ⟨k, hk, hx, hr, _⟩
        · omega
        · have : k = r := by omega
          subst this
          rwa [c1] at hr
      · rcases h.at_ p.2.toNat (by omega) with ⟨_, hx⟩ | ⟨k, hk, hx, _⟩
        · exact hx j (by omega)
        · omega
    · rw [if_neg e]
      exact h.at_ v hv
  · rw [getD_set _ _ _ _ hpl] at hqd ⊢
    by_cases e2 : q.2.toNat = p.2.toNat
    · rw [if_pos e2]; omega
    · rw [if_neg e2]
      by_cases e1 : q.1.toNat = p.2.toNat
      · rw [if_pos e1] at hqd; omega
      · rw [if_neg e1] at hqd
        rcases Nat.lt_succ_iff_lt_or_eq.1 hj with hj | hj
        · exact h.done j hj q hq hqd
        · subst hj
          rw [hi] at hq
          cases hq
          exact absurd rfl e2
theorem inR_miss {E : List (Int × Int)} {S : List Int} {n r i : Nat} {m : Bool} {d : List Int} {p : Int × Int} (h : InR E S n r i m d) (hi : E[i]? = some p)
    (h1 : ¬ (d.getD p.1.toNat 0 = r ∧ d.getD p.2.toNat 0 < 0)) : InR E S n r (i + 1) m d := by
  refine ⟨h.len, h.at_, fun j hj q hq hqd => ?_, h.no⟩
  rcases Nat.lt_succ_iff_lt_or_eq.1 hj with hj | hj
  · exact h.done j hj q hq hqd
  · subst hj
    rw [hi] at hq
    cases hq
    omega
/-- The round is over: no node is that far that is not told. -/
theorem inR_full {E : List (Int × Int)} {S : List Int} {n r : Nat} {m : Bool} {d : List Int} (F : Fits n E S) (h : InR E S n r E.length m d) :
    ∀ v : Nat, v < n → (d.getD v 0 = -1 ∧ ∀ k, k ≤ r + 1 → ¬ Rn E S k v) ∨ (∃ k : Nat, k ≤ r + 1 ∧ d.getD v 0 = k ∧ Rn E S k v ∧ ∀ j, j < k → ¬ Rn E S j v) := by
  intro v hv
  rcases h.at_ v hv with ⟨hd, hk⟩ | h'
  · refine .inl ⟨hd, fun k hk1 => ?_⟩
    rcases Nat.lt_or_ge k (r + 1) with hlt | hge
    · exact hk k (by omega)
    · have : k = r + 1 := by omega
      subst this
      rintro ⟨u, hu, hr⟩
      obtain ⟨j, hj⟩ := List.getElem?_of_mem hu
      obtain ⟨⟨a0, a1⟩, _⟩ := F.e _ hu
      have hjl : j < E.length := (List.getElem?_eq_some_iff.1 hj).1
      have c1 : ((u.toNat : Nat) : Int) = u := by simp at a0; omega
      have hur : d.getD u.toNat 0 = r := by
        simp at a0 a1
        rcases h.at_ u.toNat (by omega) with ⟨_, hx⟩ | ⟨k, hk', hx, hr', hmin⟩
        · exact absurd (by rw [c1]; exact hr) (hx r (Nat.le_refl _))
        · rw [c1] at hr' hmin
          rcases Nat.lt_trichotomy k r with hl | hl | hl
          · -- a shorter way to u is a shorter way to v
            exfalso
            exact hk (k + 1) (by omega) ⟨u, hu, hr'⟩
          · omega
          · exact absurd hr (hmin r hl)
      have := h.done j hjl _ hj hur
      simp at this
      simp at hd
      omega
  · exact .inr h'
theorem rn_stop {E : List (Int × Int)} {S : List Int} {n r : Nat} (F : Fits n E S) (h : ∀ v : Nat, v < n → (∀ j, j ≤ r → ¬ Rn E S j v) → ¬ Rn E S (r + 1) v) :
    ∀ k (v : Nat), v < n → (∀ j, j ≤ r → ¬ Rn E S j v) → ¬ Rn E S k v := by
  intro k
  induction k with
  | zero => exact fun v hv hj => hj 0 (by omega)
  | succ k ih =>
    intro v hv hj ⟨u, hu, hr⟩
    obtain ⟨⟨a0, a1⟩, _⟩ := F.e _ hu
    simp at a0 a1
    have c1 : ((u.toNat : Nat) : Int) = u := by omega
    by_cases hu' : ∀ j, j ≤ r → ¬ Rn E S j (u.toNat : Nat)
    · exact ih u.toNat (by omega) hu' (by rw [c1]; exact hr)
    · simp only [Classical.not_forall, Classical.not_not] at hu'
      obtain ⟨j, hjr, hju⟩ := hu'
      rw [c1] at hju
      rcases Nat.lt_or_ge j r with hl | hl
      · exact hj (j + 1) (by omega) ⟨u, hu, hju⟩
      · have : j = r := by omega
        subst this
        exact h v hv hj ⟨u, hu, hju⟩
theorem inR_end {E : List (Int × Int)} {S : List Int} {n r : Nat} {d : List Int} (F : Fits n E S) (h : InR E S n r E.length false d) : IsDist E S n d := by
  have hf := inR_full F h
  refine ⟨h.len, fun v hv => ?_⟩
  rcases hf v hv with ⟨hd, hk⟩ | ⟨k, hk, hx⟩
  · refine .inl ⟨hd, fun k => rn_stop (r := r) F (fun u hu hj => ?_) k v hv (fun j hj => hk j (by omega))⟩
    intro hr
    rcases hf u hu with ⟨_, hk'⟩ | ⟨k, hk', hx, hy, hz⟩
    · exact hk' (r + 1) (by omega) hr
    · have := h.no rfl u hu
      exact hj k (by omega) hy
  · exact .inr ⟨k, hx⟩
theorem isDist_unique {E : List (Int × Int)} {S : List Int} {n : Nat} {d d' : List Int} (h : IsDist E S n d) (h' : IsDist E S n d') : d = d' := by
  apply List.ext_getElem (by rw [h.len, h'.len])
  intro i h1 h2
  have e1 := h.at_ i (by rw [← h.len]; exact h1)
  have e2 := h'.at_ i (by rw [← h.len]; exact h1)
  rw [List.getD_eq_getElem?_getD, List.getElem?_eq_getElem h1] at e1
  rw [List.getD_eq_getElem?_getD, List.getElem?_eq_getElem h2] at e2
  simp only [Option.getD_some] at e1 e2
  rcases e1 with ⟨a, b⟩ | ⟨k, a, b, c⟩ <;> rcases e2 with ⟨a', b'⟩ | ⟨k', a', b', c'⟩
  · omega
  · exact absurd b' (b k')
  · exact absurd b (b' k)
  · have : k = k' := by
      rcases Nat.lt_trichotomy k k' with hl | hl | hl
      · exact absurd b (c' k hl)
      · exact hl
      · exact absurd b' (c k' hl)
    omega
end Go.Proofs.Ytcghkemfepnihaa
