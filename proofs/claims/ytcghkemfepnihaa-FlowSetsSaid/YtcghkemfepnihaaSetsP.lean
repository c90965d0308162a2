import Derived.Test.YtcghkemfepnihaaIns
namespace Go.Proofs.Ytcghkemfepnihaa
open Go.RowKit

/-! ### rising lists -/
theorem rising_unique : ∀ (l l' : List Int), l.Pairwise (· < ·) → l'.Pairwise (· < ·) → (∀ x, x ∈ l ↔ x ∈ l') → l = l'
  | [], [], _, _, _ => rfl
  | [], b :: l', _, _, h => by have := (h b).2 (by simp); simp at this
  | a :: l, [], _, _, h => by have := (h a).1 (by simp); simp at this
  | a :: l, b :: l', h1, h2, h => by
    have g1 := List.pairwise_cons.1 h1
    have g2 := List.pairwise_cons.1 h2
    have hab : a = b := by
      have k1 := (h a).1 (by simp)
      have k2 := (h b).2 (by simp)
      rcases List.mem_cons.1 k1 with e | e
      · exact e
      · rcases List.mem_cons.1 k2 with e' | e'
        · exact e'.symm
        · have := g2.1 a e; have := g1.1 b e'; omega
    subst hab
    congr 1
    refine rising_unique l l' g1.2 g2.2 fun x => ⟨fun hx => ?_, fun hx => ?_⟩
    · have := g1.1 x hx
      rcases List.mem_cons.1 ((h x).1 (by simp [hx])) with e | e
      · omega
      · exact e
    · have := g2.1 x hx
      rcases List.mem_cons.1 ((h x).2 (by simp [hx])) with e | e
      · omega
      · exact e
theorem cut_rising (s : Int) : ∀ (l : List Int), l.Pairwise (· < ·) → (∀ x ∈ l.take (l.countP (· < s)), x < s) ∧ (∀ x ∈ l.drop (l.countP (· < s)), s ≤ x)
  | [], _ => by simp
  | a :: l, h => by
    have g := List.pairwise_cons.1 h
    have ih := cut_rising s l g.2
    by_cases ha : a < s
    · rw [List.countP_cons_of_pos (by simpa using ha)]
      refine ⟨fun x hx => ?_, fun x hx => ?_⟩
      · rw [List.take_succ_cons] at hx
        rcases List.mem_cons.1 hx with e | e
        · omega
        · exact ih.1 x e
      · rw [List.drop_succ_cons] at hx; exact ih.2 x hx
    · have hz : l.countP (· < s) = 0 := by
        rw [List.countP_eq_zero]
        intro x hx
        have := g.1 x hx
        simp; omega
      rw [List.countP_cons_of_neg (by simpa using ha), hz]
      refine ⟨by simp, fun x hx => ?_⟩
      simp at hx
      rcases hx with e | e
      · omega
      · have := g.1 x e; omega
theorem countP_le (s : Int) (l : List Int) : l.countP (· < s) ≤ l.length := List.countP_le_length
theorem insF_mem (l : List Int) (i : Nat) (s x : Int) : x ∈ insF l i s ↔ x = s ∨ x ∈ l := by
  have : x ∈ l ↔ x ∈ l.take i ∨ x ∈ l.drop i := by rw [← List.mem_append, List.take_append_drop]
  rw [this]
  simp only [insF, List.mem_append, List.mem_cons]
  constructor
  · rintro (h | h | h)
    · exact .inr (.inl h)
    · exact .inl h
    · exact .inr (.inr h)
  · rintro (h | h | h)
    · exact .inr (.inl h)
    · exact .inl h
    · exact .inr (.inr h)
theorem insF_rising {l : List Int} {s : Int} (h : l.Pairwise (· < ·)) (hs : s ∉ l) : (insF l (l.countP (· < s)) s).Pairwise (· < ·) := by
  have hc := cut_rising s l h
  have hd : ∀ x ∈ l.drop (l.countP (· < s)), s < x := fun x hx => by
    have h1 := hc.2 x hx
    have h2 : x ≠ s := fun e => hs (e ▸ List.mem_of_mem_drop hx)
    omega
  rw [insF, List.pairwise_append, List.pairwise_cons]
  refine ⟨h.take, ⟨hd, h.drop⟩, fun a ha b hb => ?_⟩
  have h1 := hc.1 a ha
  rcases List.mem_cons.1 hb with e | e
  · omega
  · have := hd b e; omega

/-! ### what the nodes have -/
def Has (E D : List (Int × Int)) (v s : Int) : Prop := ∃ x, (x, s) ∈ D ∧ Rch E [x] v
structure SetsOut (E D : List (Int × Int)) (n : Nat) (outs : List (List Int)) : Prop where
  len : outs.length = n
  up : ∀ v, v < n → (outs.getD v []).Pairwise (· < ·)
  mem : ∀ v : Nat, v < n → ∀ s, s ∈ outs.getD v [] ↔ Has E D v s
theorem setsOut_unique {E D : List (Int × Int)} {n : Nat} {a b : List (List Int)} (h : SetsOut E D n a) (k : SetsOut E D n b) : a = b := by
  refine List.ext_getElem (by rw [h.len, k.len]) fun i h1 h2 => ?_
  have hi : i < n := by rw [← h.len]; exact h1
  have := rising_unique _ _ (h.up i hi) (k.up i hi) (fun x => by rw [h.mem i hi, k.mem i hi])
  rwa [List.getD_eq_getElem?_getD, List.getD_eq_getElem?_getD, List.getElem?_eq_getElem h1, List.getElem?_eq_getElem h2] at this
theorem has_start {E D : List (Int × Int)} {x s : Int} (h : (x, s) ∈ D) : Has E D x s := ⟨x, h, 0, by simp [Rn]⟩
theorem has_step {E D : List (Int × Int)} {a b s : Int} (h : Has E D a s) (he : (a, b) ∈ E) : Has E D b s := by
  obtain ⟨x, hx, k, hk⟩ := h
  exact ⟨x, hx, k + 1, a, he, hk⟩

structure Mids (E D : List (Int × Int)) (n : Nat) (outs : List (List Int)) (wait : List (Int × Int)) : Prop where
  len : outs.length = n
  up : ∀ v, v < n → (outs.getD v []).Pairwise (· < ·)
  rng : ∀ p ∈ wait, 0 ≤ p.1 ∧ p.1 < n
  ok : ∀ p ∈ wait, Has E D p.1 p.2
  ok' : ∀ v : Nat, v < n → ∀ s ∈ outs.getD v [], Has E D v s
  all : ∀ p ∈ D, p ∈ wait ∨ p.2 ∈ outs.getD p.1.toNat []
  next : ∀ a : Nat, a < n → ∀ s ∈ outs.getD a [], ∀ b : Int, ((a : Int), b) ∈ E → (b, s) ∈ wait ∨ s ∈ outs.getD b.toNat []
theorem mids_start {E D : List (Int × Int)} {n : Nat} (hD : ∀ p ∈ D, 0 ≤ p.1 ∧ p.1 < n) : Mids E D n (List.replicate n []) D := by
  refine ⟨by simp, fun v _ => by rw [getD_replicate]; exact .nil, hD, fun p hp => has_start hp, fun v _ s hs => ?_, fun p hp => .inl hp, fun a _ s hs => ?_⟩
  · rw [getD_replicate] at hs; simp at hs
  · rw [getD_replicate] at hs; simp at hs
theorem mids_seen {E D : List (Int × Int)} {n : Nat} {outs : List (List Int)} {ws : List (Int × Int)} {p : Int × Int} (h : Mids E D n outs (ws ++ [p])) (hp : p.2 ∈ outs.getD p.1.toNat []) : Mids E D n outs ws := by
  refine ⟨h.len, h.up, fun u hu => h.rng u (by simp [hu]), fun u hu => h.ok u (by simp [hu]), h.ok', fun u hu => ?_, fun a ha s hs b hb => ?_⟩
  · rcases h.all u hu with h1 | h1
    · rcases List.mem_append.1 h1 with h2 | h2
      · exact .inl h2
      · simp at h2; subst h2; exact .inr hp
    · exact .inr h1
  · rcases h.next a ha s hs b hb with h1 | h1
    · rcases List.mem_append.1 h1 with h2 | h2
      · exact .inl h2
      · simp at h2; subst h2; exact .inr hp
    · exact .inr h1
theorem mids_new {E D : List (Int × Int)} {n : Nat} {outs : List (List Int)} {ws : List (Int × Int)} {v : Nat} {s : Int} {row : List Int} (hE : ∀ p ∈ E, (0 ≤ p.1 ∧ p.1 < n) ∧ (0 ≤ p.2 ∧ p.2 < n)) (hrow : ∀ b : Int, b ∈ row ↔ ((v : Int), b) ∈ E)
    (h : Mids E D n outs (ws ++ [((v : Int), s)])) (hv : v < n) (hs : s ∉ outs.getD v []) :
    Mids E D n (outs.set v (insF (outs.getD v []) ((outs.getD v []).countP (· < s)) s)) (ws ++ row.map fun b => (b, s)) := by
  have hl : v < outs.length := by rw [h.len]; exact hv
  have gd : ∀ u, (outs.set v (insF (outs.getD v []) ((outs.getD v []).countP (· < s)) s)).getD u [] = if u = v then insF (outs.getD v []) ((outs.getD v []).countP (· < s)) s else outs.getD u [] := fun u => getD_set' _ _ _ _ _ hl
  have hm : Has E D v s := h.ok ((v : Int), s) (by simp)
  have keep : ∀ u t, t ∈ outs.getD u [] → t ∈ (outs.set v (insF (outs.getD v []) ((outs.getD v []).countP (· < s)) s)).getD u [] := fun u t ht => by
    rw [gd]; split
    · rename_i e; subst e; exact (insF_mem _ _ _ _).2 (.inr ht)
    · exact ht
  have hself : s ∈ (outs.set v (insF (outs.getD v []) ((outs.getD v []).countP (· < s)) s)).getD v [] := by rw [gd, if_pos rfl]; exact (insF_mem _ _ _ _).2 (.inl rfl)
  refine ⟨by simpa using h.len, fun u hu => ?_, fun p hp => ?_, fun p hp => ?_, fun u hu t ht => ?_, fun p hp => ?_, fun a ha t ht b hb => ?_⟩
  · rw [gd]; split
    · exact insF_rising (h.up v hv) hs
    · exact h.up u hu
  · rcases List.mem_append.1 hp with h1 | h1
    · exact h.rng p (by simp [h1])
    · obtain ⟨b, hb, rfl⟩ := List.mem_map.1 h1
      exact (hE _ ((hrow b).1 hb)).2
  · rcases List.mem_append.1 hp with h1 | h1
    · exact h.ok p (by simp [h1])
    · obtain ⟨b, hb, rfl⟩ := List.mem_map.1 h1
      exact has_step hm ((hrow b).1 hb)
  · rw [gd] at ht
    split at ht
    · rename_i e
      subst e
      rcases (insF_mem _ _ _ _).1 ht with e | e
      · rw [e]; exact hm
      · exact h.ok' u hu t e
    · exact h.ok' u hu t ht
  · rcases h.all p hp with h1 | h1
    · rcases List.mem_append.1 h1 with h2 | h2
      · exact .inl (by simp [h2])
      · simp at h2; subst h2; exact .inr (by simpa using hself)
    · exact .inr (keep _ _ h1)
  · rw [gd] at ht
    by_cases e : a = v
    · subst e
      rw [if_pos rfl] at ht
      rcases (insF_mem _ _ _ _).1 ht with e | e
      · subst e; exact .inl (List.mem_append.2 (.inr (List.mem_map.2 ⟨b, (hrow b).2 hb, rfl⟩)))
      · rcases h.next a ha t e b hb with h1 | h1
        · rcases List.mem_append.1 h1 with h2 | h2
          · exact .inl (by simp [h2])
          · simp at h2; obtain ⟨rfl, rfl⟩ := h2; exact .inr (by simpa using hself)
        · exact .inr (keep _ _ h1)
    · rw [if_neg e] at ht
      rcases h.next a ha t ht b hb with h1 | h1
      · rcases List.mem_append.1 h1 with h2 | h2
        · exact .inl (by simp [h2])
        · simp at h2; obtain ⟨rfl, rfl⟩ := h2; exact .inr (by simpa using hself)
      · exact .inr (keep _ _ h1)
theorem mids_end {E D : List (Int × Int)} {n : Nat} {outs : List (List Int)} (hE : ∀ p ∈ E, (0 ≤ p.1 ∧ p.1 < n) ∧ (0 ≤ p.2 ∧ p.2 < n)) (hD : ∀ p ∈ D, 0 ≤ p.1 ∧ p.1 < n) (h : Mids E D n outs []) : SetsOut E D n outs := by
  refine ⟨h.len, h.up, fun v hv s => ⟨h.ok' v hv s, fun ⟨x, hx, k, hk⟩ => ?_⟩⟩
  have key : ∀ (k : Nat) (v : Nat), v < n → Rn E [x] k v → s ∈ outs.getD v [] := by
    intro k
    induction k with
    | zero =>
      intro v hv hr
      have hvx : (v : Int) = x := by simpa [Rn] using hr
      rcases h.all _ hx with h1 | h1
      · simp at h1
      · rw [← hvx] at h1; simpa using h1
    | succ k ih =>
      rintro v hv ⟨u, hu, hr⟩
      obtain ⟨⟨u0, u1⟩, _⟩ := hE _ hu
      simp at u0 u1
      have c1 : ((u.toNat : Nat) : Int) = u := by omega
      rcases h.next u.toNat (by omega) s (ih u.toNat (by omega) (by rw [c1]; exact hr)) v (by rw [c1]; exact hu) with h1 | h1
      · simp at h1
      · simpa using h1
  exact key k v hv hk

/-! ### the rounds left -/
def lack (D : List (Int × Int)) (l : List Int) : Nat := D.countP fun p => decide (p.2 ∉ l)
def unp (D : List (Int × Int)) (gs outs : List (List Int)) : Nat := ((gs.zip outs).map fun p => p.1.length * lack D p.2).sum
theorem lack_new {D : List (Int × Int)} {l l' : List Int} {s : Int} (hD : ∃ x, (x, s) ∈ D) (hs : s ∉ l) (h : ∀ t, t ∈ l' ↔ t = s ∨ t ∈ l) : lack D l' + 1 ≤ lack D l := by
  obtain ⟨x, hx⟩ := hD
  have le : ∀ (D : List (Int × Int)), lack D l' ≤ lack D l := by
    intro D
    refine List.countP_mono_left fun p _ hp => ?_
    simp at hp ⊢
    exact fun hp2 => hp ((h _).2 (.inr hp2))
  have one : ∀ (d : Int × Int) (D : List (Int × Int)) (l : List Int), lack (d :: D) l = lack D l + if d.2 ∉ l then 1 else 0 := fun d D l => by
    rw [lack, List.countP_cons]; simp [lack]
  induction D with
  | nil => simp at hx
  | cons d D ih =>
    rw [one, one]
    have hle := le D
    by_cases e : d = (x, s)
    · subst e
      have h1 : s ∈ l' := (h s).2 (.inl rfl)
      simp only [h1, hs, not_true_eq_false, not_false_eq_true, if_true, if_false]
      omega
    · have := ih (by
        rcases List.mem_cons.1 hx with e2 | e2
        · exact absurd e2.symm e
        · exact e2)
      by_cases h1 : d.2 ∉ l'
      · have h2 : d.2 ∉ l := fun h3 => h1 ((h _).2 (.inr h3))
        rw [if_pos h1, if_pos h2]; omega
      · rw [if_neg h1]; omega
theorem unp_set (D : List (Int × Int)) (gs outs : List (List Int)) (v : Nat) (l' : List Int) (h1 : v < gs.length) (h2 : v < outs.length) (h : lack D l' + 1 ≤ lack D (outs.getD v [])) : unp D gs (outs.set v l') + (gs.getD v []).length ≤ unp D gs outs := by
  induction gs generalizing outs v with
  | nil => simp at h1
  | cons a gs ih =>
    cases outs with
    | nil => simp at h2
    | cons b outs =>
      cases v with
      | zero =>
        have h3 : a.length * (lack D l' + 1) ≤ a.length * lack D b := Nat.mul_le_mul_left _ (by simpa using h)
        rw [Nat.mul_add, Nat.mul_one] at h3
        simp [unp]
        omega
      | succ v =>
        have := ih outs v (by simpa using h1) (by simpa using h2) (by simpa using h)
        simp [unp] at *
        omega
theorem unp_start (D : List (Int × Int)) (gs : List (List Int)) : ∀ n, unp D gs (List.replicate n []) ≤ total gs * D.length := by
  induction gs with
  | nil => intro n; simp [unp]
  | cons a gs ih =>
    intro n
    cases n with
    | zero => simp [unp]
    | succ n =>
      have h1 := ih n
      have h2 : lack D [] ≤ D.length := List.countP_le_length
      have h3 := Nat.mul_le_mul_left a.length h2
      simp only [unp, total, List.replicate_succ, List.zip_cons_cons, List.map_cons, List.sum_cons, Nat.add_mul] at *
      omega

/-! ### the reference: seed by seed -/
def putL : List Int → Int → List Int
  | [], n => [n]
  | a :: l, n => if n < a then n :: a :: l else a :: putL l n
def putF (l : List Int) (n : Int) : List Int := if n ∈ l then l else putL l n
theorem putL_le {l : List Int} {n : Int} (h : ∀ x ∈ l, ¬ n < x) : putL l n = l ++ [n] := by
  induction l with
  | nil => rfl
  | cons a l ih => rw [putL, if_neg (h a (by simp)), ih (fun x hx => h x (by simp [hx]))]; rfl
theorem putL_snoc (l : List Int) (n a : Int) : putL (l ++ [a]) n = if (∃ x ∈ l, n < x) then putL l n ++ [a] else if n < a then l ++ [n, a] else l ++ [a, n] := by
  induction l with
  | nil => simp [putL]
  | cons b l ih =>
    rw [List.cons_append, putL, putL]
    by_cases hb : n < b
    · rw [if_pos hb, if_pos hb, if_pos ⟨b, by simp, hb⟩]; rfl
    · rw [if_neg hb, if_neg hb, ih]
      have : (∃ x ∈ b :: l, n < x) ↔ ∃ x ∈ l, n < x := by simp [hb]
      simp only [this]
      split
      · rfl
      · split <;> rfl
theorem putL_mem (l : List Int) (n x : Int) : x ∈ putL l n ↔ x = n ∨ x ∈ l := by
  induction l with
  | nil => simp [putL]
  | cons a l ih =>
    rw [putL]
    split
    · simp
    · simp only [List.mem_cons, ih]
      constructor
      · rintro (h | h | h)
        · exact .inr (.inl h)
        · exact .inl h
        · exact .inr (.inr h)
      · rintro (h | h | h)
        · exact .inr (.inl h)
        · exact .inl h
        · exact .inr (.inr h)
theorem putF_mem (l : List Int) (n x : Int) : x ∈ putF l n ↔ x = n ∨ x ∈ l := by
  rw [putF]; split
  · rename_i h
    constructor
    · exact .inr
    · rintro (e | e)
      · rw [e]; exact h
      · exact e
  · exact putL_mem l n x
theorem putF_rising {l : List Int} {n : Int} (h : l.Pairwise (· < ·)) : (putF l n).Pairwise (· < ·) := by
  rw [putF]; split
  · exact h
  · rename_i hn
    induction l with
    | nil => simp [putL]
    | cons a l ih =>
      have g := List.pairwise_cons.1 h
      rw [putL]
      split
      · rename_i hna
        refine List.pairwise_cons.2 ⟨fun x hx => ?_, h⟩
        rcases List.mem_cons.1 hx with e | e
        · omega
        · have := g.1 x e; omega
      · rename_i hna
        refine List.pairwise_cons.2 ⟨fun x hx => ?_, ih g.2 (fun e => hn (by simp [e]))⟩
        rcases (putL_mem _ _ _).1 hx with e | e
        · have : a ≠ n := fun e2 => hn (by simp [e2]); omega
        · exact g.1 x e
theorem putF_length (l : List Int) (n : Int) : (putF l n).length ≤ l.length + 1 := by
  have : ∀ l : List Int, (putL l n).length = l.length + 1 := by
    intro l
    induction l with
    | nil => rfl
    | cons a l ih => rw [putL]; split <;> simp [ih]
  rw [putF]; split
  · omega
  · rw [this]; omega
structure RefMid (E D : List (Int × Int)) (n k j : Nat) (outs : List (List Int)) : Prop where
  len : outs.length = n
  up : ∀ v, v < n → (outs.getD v []).Pairwise (· < ·)
  short : ∀ v, v < n → (outs.getD v []).length ≤ k + if v < j then 1 else 0
  mem : ∀ v : Nat, v < n → ∀ s, s ∈ outs.getD v [] ↔ (∃ i, i < k ∧ ∃ x, D[i]? = some (x, s) ∧ Rch E [x] v) ∨ (v < j ∧ ∃ x, D[k]? = some (x, s) ∧ Rch E [x] v)
theorem refMid_start (E D : List (Int × Int)) (n : Nat) : RefMid E D n 0 0 (List.replicate n []) := by
  refine ⟨by simp, fun v _ => by rw [getD_replicate]; exact .nil, fun v _ => by rw [getD_replicate]; simp, fun v _ s => ?_⟩
  rw [getD_replicate]
  constructor
  · intro h; simp at h
  · rintro (⟨i, h, _⟩ | ⟨h, _⟩)
    · omega
    · omega
theorem refMid_hit {E D : List (Int × Int)} {n k j : Nat} {outs : List (List Int)} {x s : Int} (h : RefMid E D n k j outs) (hj : j < n) (hD : D[k]? = some (x, s)) (hm : Rch E [x] j) : RefMid E D n k (j + 1) (outs.set j (putF (outs.getD j []) s)) := by
  have hl : j < outs.length := by rw [h.len]; exact hj
  have gd : ∀ u, (outs.set j (putF (outs.getD j []) s)).getD u [] = if u = j then putF (outs.getD j []) s else outs.getD u [] := fun u => getD_set' _ _ _ _ _ hl
  refine ⟨by simpa using h.len, fun v hv => ?_, fun v hv => ?_, fun v hv t => ?_⟩
  · rw [gd]; split
    · exact putF_rising (h.up j hj)
    · exact h.up v hv
  · rw [gd]
    have h1 := h.short v hv
    split
    · rename_i e
      subst e
      have h2 := putF_length (outs.getD v []) s
      rw [if_neg (by omega)] at h1
      rw [if_pos (by omega)]
      omega
    · rename_i e
      split at h1 <;> split <;> omega
  · rw [gd]
    by_cases e : v = j
    · subst e
      rw [if_pos rfl, putF_mem, h.mem v hv]
      constructor
      · rintro (e | h1 | ⟨h1, _⟩)
        · subst e; exact .inr ⟨by omega, x, hD, hm⟩
        · exact .inl h1
        · omega
      · rintro (h1 | ⟨_, y, h1, h2⟩)
        · exact .inr (.inl h1)
        · rw [hD] at h1; cases h1; exact .inl rfl
    · rw [if_neg e, h.mem v hv]
      have : v < j ↔ v < j + 1 := by omega
      rw [this]
theorem refMid_miss {E D : List (Int × Int)} {n k j : Nat} {outs : List (List Int)} {x s : Int} (h : RefMid E D n k j outs) (hD : D[k]? = some (x, s)) (hm : ¬ Rch E [x] j) : RefMid E D n k (j + 1) outs := by
  refine ⟨h.len, h.up, fun v hv => ?_, fun v hv t => ?_⟩
  · have h1 := h.short v hv
    split at h1 <;> split <;> omega
  · rw [h.mem v hv]
    by_cases e : v = j
    · subst e
      constructor
      · rintro (h1 | ⟨h1, _⟩)
        · exact .inl h1
        · omega
      · rintro (h1 | ⟨_, y, h1, h2⟩)
        · exact .inl h1
        · rw [hD] at h1; cases h1; exact absurd h2 hm
    · have : v < j ↔ v < j + 1 := by omega
      rw [this]
theorem refMid_next {E D : List (Int × Int)} {n k : Nat} {outs : List (List Int)} (h : RefMid E D n k n outs) : RefMid E D n (k + 1) 0 outs := by
  refine ⟨h.len, h.up, fun v hv => ?_, fun v hv t => ?_⟩
  · have h1 := h.short v hv
    rw [if_pos hv] at h1
    rw [if_neg (by omega)]
    omega
  · rw [h.mem v hv]
    constructor
    · rintro (⟨i, h1, h2⟩ | ⟨_, h2⟩)
      · exact .inl ⟨i, by omega, h2⟩
      · exact .inl ⟨k, by omega, h2⟩
    · rintro (⟨i, h1, h2⟩ | ⟨h1, _⟩)
      · by_cases e : i = k
        · subst e; exact .inr ⟨hv, h2⟩
        · exact .inl ⟨i, by omega, h2⟩
      · omega
theorem refMid_end {E D : List (Int × Int)} {n : Nat} {outs : List (List Int)} (h : RefMid E D n D.length 0 outs) : SetsOut E D n outs := by
  refine ⟨h.len, h.up, fun v hv t => ?_⟩
  rw [h.mem v hv]
  constructor
  · rintro (⟨i, h1, x, h2, h3⟩ | ⟨h1, _⟩)
    · exact ⟨x, List.mem_of_getElem? h2, h3⟩
    · omega
  · rintro ⟨x, hx, h3⟩
    obtain ⟨i, hi⟩ := List.getElem?_of_mem hx
    exact .inl ⟨i, (List.getElem?_eq_some_iff.1 hi).1, x, hi, h3⟩
end Go.Proofs.Ytcghkemfepnihaa
