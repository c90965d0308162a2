/- Deep words, eighteenth part: regions that draw their order. -/
import Derived.Test.YtpeafglbhjjbhaaDoorDQ
namespace Go.Proofs.YtpeafglbhjjbhaaDoor
open Go Go.RowKit

/-- What an operation looks at and writes. -/
structure Ent where
  i : Nat
  dt : List Nat
  dr : List Nat
  wt : List Nat
  wr : List Nat
def noneOf (a b : List Nat) : Bool := a.all fun x => b.all fun y => !Nat.beq x y
def Ent.apart (e f : Ent) : Bool := noneOf e.wt f.wt && (noneOf e.wt f.dt && (noneOf f.wt e.dt && (noneOf e.wr f.wr && (noneOf e.wr f.dr && noneOf f.wr e.dr))))
def inB (i : Nat) (l : List Nat) : Bool := l.any fun x => Nat.beq i x
def okB (anc : List (List Nat)) (pre : List Ent) (e : Ent) : Bool := pre.all fun p => inB p.i (anc.getD e.i []) || p.apart e
def entOf (i : Nat) (d : Nd) (E : Eff) : Ent := ⟨i, d.t.map (·.1), d.r.map (·.1), E.t.map (·.1), E.r.map (·.1)⟩
theorem noneOf_ok {a b : List Nat} (h : noneOf a b = true) {x : Nat} (ha : x ∈ a) (hb : x ∈ b) : False := by
  have h1 := List.all_eq_true.1 (List.all_eq_true.1 h x ha) x hb
  simp at h1
theorem inB_ok {i : Nat} {l : List Nat} (h : inB i l = true) : i ∈ l := by
  obtain ⟨x, hx, he⟩ := List.any_eq_true.1 h
  have := Nat.eq_of_beq_eq_true he
  subst this
  exact hx
/-- Operations in an order that is chosen here; a call whose answer isn't known stands ahead of what waits for it only. -/
def DvD (F : Fence) (n : Nat) (P : Program) (X : Cx) (ops : Array Oper) (anc : List (List Nat)) : List Ent → List Nat → List (Nat × CT) → List (Nat × Option Root) → Nat → (St → Prop) → Prop
  | _, [], t, r, nx, K => K ⟨t, r, nx⟩
  | pre, i :: π, t, r, nx, K => ∃ o d ks post, ops[i]? = some o ∧ OpL F n P X ops o d ks post ∧ d.ok ⟨t, r, nx⟩ ∧ (∀ k ∈ ks, nx * 64 ≤ k ∧ k < nx * 64 + 64) ∧
      ((∃ E, post = (· = E)) ∨ π.all (fun j => inB i (anc.getD j [])) = true) ∧ okB anc pre ⟨i, d.t.map (·.1), d.r.map (·.1), [], []⟩ = true ∧
      ∀ E, post E → okB anc pre (entOf i d E) = true ∧ DvD F n P X ops anc (entOf i d E :: pre) π (E.t ++ t) (E.r ++ r) (nx + 1) K
theorem okB_less {anc : List (List Nat)} {pre : List Ent} {i : Nat} {d : Nd} {E : Eff} (h : okB anc pre (entOf i d E) = true) : okB anc pre ⟨i, d.t.map (·.1), d.r.map (·.1), [], []⟩ = true := by
  refine List.all_eq_true.2 fun p hp => ?_
  have := List.all_eq_true.1 h p hp
  simp only [Bool.or_eq_true, Ent.apart, Bool.and_eq_true, entOf] at this ⊢
  refine this.imp id fun ⟨h1, h2, h3, h4, h5, h6⟩ => ⟨by simp [noneOf], h2, by simp [noneOf], by simp [noneOf], h5, by simp [noneOf]⟩
section
variable {F : Fence} {n : Nat} {P : Program} {X : Cx} {ops : Array Oper} {anc : List (List Nat)} {pre : List Ent} {i : Nat} {π : List Nat} {o : Oper} {t : List (Nat × CT)} {r : List (Nat × Option Root)} {nx : Nat} {d : Nd} {ks : List Nat} {K : St → Prop}
theorem ddt {E : Eff} (h : Sg F n P X ops o t r nx d ks E) (hi : ops[i]? = some o) (hc : okB anc pre (entOf i d E) = true) (hK : DvD F n P X ops anc (entOf i d E :: pre) π (E.t ++ t) (E.r ++ r) (nx + 1) K) : DvD F n P X ops anc pre (i :: π) t r nx K :=
  ⟨o, d, ks, _, hi, h.1, h.2.1, h.2.2, .inl ⟨E, rfl⟩, okB_less hc, fun E' hE => by subst hE; exact ⟨hc, hK⟩⟩
theorem dd1 {x : Nat} {c : CT} (h : Sg F n P X ops o t r nx d ks ⟨[(x, c)], []⟩) (hi : ops[i]? = some o) (hc : okB anc pre ⟨i, d.t.map (·.1), d.r.map (·.1), [x], []⟩ = true) (hK : DvD F n P X ops anc (⟨i, d.t.map (·.1), d.r.map (·.1), [x], []⟩ :: pre) π ((x, c) :: t) r (nx + 1) K) : DvD F n P X ops anc pre (i :: π) t r nx K := ddt h hi hc hK
theorem ddN {x k : Nat} {c : CT} {R : Option Root} (h : Sg F n P X ops o t r nx d ks ⟨[(x, c)], [(k, R)]⟩) (hi : ops[i]? = some o) (hc : okB anc pre ⟨i, d.t.map (·.1), d.r.map (·.1), [x], [k]⟩ = true) (hK : DvD F n P X ops anc (⟨i, d.t.map (·.1), d.r.map (·.1), [x], [k]⟩ :: pre) π ((x, c) :: t) ((k, R) :: r) (nx + 1) K) : DvD F n P X ops anc pre (i :: π) t r nx K := ddt h hi hc hK
theorem ddN2 {x k k' : Nat} {c : CT} {R R' : Option Root} (h : Sg F n P X ops o t r nx d ks ⟨[(x, c)], [(k, R), (k', R')]⟩) (hi : ops[i]? = some o) (hc : okB anc pre ⟨i, d.t.map (·.1), d.r.map (·.1), [x], [k, k']⟩ = true) (hK : DvD F n P X ops anc (⟨i, d.t.map (·.1), d.r.map (·.1), [x], [k, k']⟩ :: pre) π ((x, c) :: t) ((k, R) :: (k', R') :: r) (nx + 1) K) : DvD F n P X ops anc pre (i :: π) t r nx K := ddt h hi hc hK
theorem ddN3 {x k k' k'' : Nat} {c : CT} {R R' R'' : Option Root} (h : Sg F n P X ops o t r nx d ks ⟨[(x, c)], [(k, R), (k', R'), (k'', R'')]⟩) (hi : ops[i]? = some o) (hc : okB anc pre ⟨i, d.t.map (·.1), d.r.map (·.1), [x], [k, k', k'']⟩ = true) (hK : DvD F n P X ops anc (⟨i, d.t.map (·.1), d.r.map (·.1), [x], [k, k', k'']⟩ :: pre) π ((x, c) :: t) ((k, R) :: (k', R') :: (k'', R'') :: r) (nx + 1) K) : DvD F n P X ops anc pre (i :: π) t r nx K := ddt h hi hc hK
theorem ddS {k : Nat} {R : Option Root} (h : Sg F n P X ops o t r nx d ks ⟨[], [(k, R)]⟩) (hi : ops[i]? = some o) (hc : okB anc pre ⟨i, d.t.map (·.1), d.r.map (·.1), [], [k]⟩ = true) (hK : DvD F n P X ops anc (⟨i, d.t.map (·.1), d.r.map (·.1), [], [k]⟩ :: pre) π t ((k, R) :: r) (nx + 1) K) : DvD F n P X ops anc pre (i :: π) t r nx K := ddt h hi hc hK
/-- A call of which all is known. -/
theorem ddC1 {dst : Nat} {c : CT} (h : SgC F n P X ops o t r nx d ks dst (fun c' => c' = c)) (hi : ops[i]? = some o) (hc : okB anc pre ⟨i, d.t.map (·.1), d.r.map (·.1), [dst], (rRC (nx * 64) c).map (·.1)⟩ = true)
    (hK : DvD F n P X ops anc (⟨i, d.t.map (·.1), d.r.map (·.1), [dst], (rRC (nx * 64) c).map (·.1)⟩ :: pre) π ((dst, rC (nx * 64) c) :: t) (rRC (nx * 64) c ++ r) (nx + 1) K) : DvD F n P X ops anc pre (i :: π) t r nx K := by
  refine ddt (E := ⟨[(dst, rC (nx * 64) c)], rRC (nx * 64) c⟩) ⟨?_, h.2.1, h.2.2⟩ hi hc hK
  have e : (fun E => ∃ c', c' = c ∧ E = (⟨[(dst, rC (nx * 64) c')], rRC (nx * 64) c'⟩ : Eff)) = fun E => E = ⟨[(dst, rC (nx * 64) c)], rRC (nx * 64) c⟩ := by
    funext E
    exact propext ⟨fun ⟨c', h1, h2⟩ => by subst h1; exact h2, fun h => ⟨c, rfl, h⟩⟩
  have := h.1
  rwa [e] at this
theorem ddE (h : K ⟨t, r, nx⟩) : DvD F n P X ops anc pre [] t r nx K := h
end
/-! ### any order that comes up -/
structure Ex where
  i : Nat
  o : Oper
  d : Nd
  ks : List Nat
  E : Eff
def Ex.en (e : Ex) : Ent := entOf e.i e.d e.E
def sumA {α : Type} (f : Ex → List α) (on : Nat → Bool) : List Ex → List α
  | [] => []
  | e :: l => if on e.i then f e ++ sumA f on l else sumA f on l
theorem lk_append {α : Type} (d : α) (l l' : List (Nat × α)) (k : Nat) : lk d (l ++ l') k = lk (lk d l' k) l k := by
  induction l with
  | nil => rfl
  | cons p l ih =>
    obtain ⟨q, x⟩ := p
    simp only [List.cons_append, lk]
    split
    · rfl
    · exact ih
theorem lk_not {α : Type} (d : α) (l : List (Nat × α)) (k : Nat) (h : k ∉ l.map (·.1)) : lk d l k = d := by
  induction l with
  | nil => rfl
  | cons p l ih =>
    obtain ⟨q, x⟩ := p
    simp at h
    simp only [lk]
    rw [if_neg (fun e => h.1 e.symm)]
    exact ih (by simpa using h.2)
theorem lk_in {α : Type} (d d' : α) (l : List (Nat × α)) (k : Nat) (h : k ∈ l.map (·.1)) : lk d l k = lk d' l k := by
  induction l with
  | nil => simp at h
  | cons p l ih =>
    obtain ⟨q, x⟩ := p
    simp only [lk]
    split
    · rfl
    · rename_i e
      simp at h
      rcases h with h | h
      · exact absurd h.symm e
      · exact ih (by simpa using h)
section
variable {α : Type} {f : Ex → List (Nat × α)} {on on' : Nat → Bool}
/-- What isn't carried out doesn't matter to who doesn't look at it. -/
theorem sumA_all (d : α) (k : Nat) : ∀ B : List Ex, (∀ b ∈ B, on b.i = false → k ∉ (f b).map (·.1)) → lk d (sumA f on B) k = lk d (sumA f (fun _ => true) B) k
  | [], _ => rfl
  | b :: B, h => by
    have ih := sumA_all d k B fun b hb => h b (List.mem_cons_of_mem _ hb)
    simp only [sumA, if_true]
    cases hb : on b.i with
    | true => simp only [if_true]; rw [lk_append, lk_append, ih]
    | false => simp only [Bool.false_eq_true, if_false]; rw [lk_append, lk_not _ _ _ (h b List.mem_cons_self hb), ih]
theorem sumA_skip (d : α) (k : Nat) (B : List Ex) : ∀ A : List Ex, (∀ a ∈ A, on a.i = true → k ∉ (f a).map (·.1)) → lk d (sumA f on (A ++ B)) k = lk d (sumA f on B) k
  | [], _ => rfl
  | a :: A, h => by
    have ih := sumA_skip d k B A fun b hb => h b (List.mem_cons_of_mem _ hb)
    simp only [List.cons_append, sumA]
    cases ha : on a.i with
    | true => simp only [if_true]; rw [lk_append, lk_not _ _ _ (h a List.mem_cons_self ha), ih]
    | false => simp only [Bool.false_eq_true, if_false]; exact ih
theorem sumA_same : ∀ B : List Ex, (∀ b ∈ B, on b.i = on' b.i) → sumA f on B = sumA f on' B
  | [], _ => rfl
  | b :: B, h => by
    simp only [sumA]
    rw [h b List.mem_cons_self, sumA_same B fun b hb => h b (List.mem_cons_of_mem _ hb)]
/-- One more is carried out, of which the later ones know nothing. -/
theorem sumA_put (d : α) (k : Nat) {e : Ex} (B : List Ex) (h0 : on e.i = false) (h1 : on' e.i = true) : ∀ A : List Ex, (∀ a ∈ A ++ B, a.i ≠ e.i → on a.i = on' a.i) → (∀ a ∈ A ++ B, a.i ≠ e.i) → (∀ a ∈ A, on a.i = true → k ∈ (f e).map (·.1) → k ∉ (f a).map (·.1)) →
    lk d (f e ++ sumA f on (A ++ e :: B)) k = lk d (sumA f on' (A ++ e :: B)) k
  | [], h, hne, _ => by
    simp only [List.nil_append, sumA, h0, h1, if_true, Bool.false_eq_true, if_false]
    rw [sumA_same B fun b hb => h b (by simpa using hb) (hne b (by simpa using hb))]
  | a :: A, h, hne, hk => by
    have ih := sumA_put d k B h0 h1 A (fun b hb => h b (List.mem_cons_of_mem _ hb)) (fun b hb => hne b (List.mem_cons_of_mem _ hb)) fun b hb => hk b (List.mem_cons_of_mem _ hb)
    have ha := h a List.mem_cons_self (hne a List.mem_cons_self)
    simp only [List.cons_append, sumA, ← ha]
    cases hoa : on a.i with
    | false => simp only [Bool.false_eq_true, if_false]; exact ih
    | true =>
      simp only [if_true]
      rw [lk_append d (f a), ← ih]
      by_cases hke : k ∈ (f e).map (·.1)
      · rw [lk_not _ (f a) _ (hk a List.mem_cons_self hoa hke), lk_append, lk_append d, lk_append d (f e)]
        exact lk_in _ _ _ _ hke
      · rw [lk_append, lk_not _ (f e) _ hke, lk_append d, lk_append d, lk_not _ (f e) _ hke]
end
end Go.Proofs.YtpeafglbhjjbhaaDoor

