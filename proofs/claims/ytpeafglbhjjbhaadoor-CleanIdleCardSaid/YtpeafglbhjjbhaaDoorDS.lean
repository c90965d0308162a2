/- Deep words, nineteenth part: regions that draw their order are sound. -/
import Derived.Test.YtpeafglbhjjbhaaDoorDR
namespace Go.Proofs.YtpeafglbhjjbhaaDoor
open Go Go.RowKit

def predsL (o : Oper) : List Nat := (o.after.toList.filter (fun e => Region.binds .any e)).map (fun e => e.on)
def ancB (ops : List Oper) (anc : List (List Nat)) : Bool :=
  go ops anc 0
where
  go : List Oper → List (List Nat) → Nat → Bool
    | [], [], _ => true
    | o :: os, l :: ls, j => ((predsL o).all fun p => Nat.blt p j) && ((l.all fun k => (predsL o).any fun p => Nat.beq k p || inB k (anc.getD p [])) && go os ls (j + 1))
    | _, _, _ => false
def permB (n : Nat) (π : List Nat) : Bool := (List.range n).all (fun i => inB i π) && Nat.beq π.length n
theorem ancB_go {anc : List (List Nat)} : ∀ (os : List Oper) (ls : List (List Nat)) (j0 : Nat), ancB.go anc os ls j0 = true → ∀ (m : Nat) (o : Oper), os[m]? = some o → (∀ p ∈ predsL o, p < j0 + m) ∧ ∀ k ∈ ls.getD m [], ∃ p ∈ predsL o, k = p ∨ k ∈ anc.getD p []
  | [], _, _, _, m, o, h => by simp at h
  | o0 :: os, [], j0, hg, m, o, h => by simp [ancB.go] at hg
  | o0 :: os, l :: ls, j0, hg, m, o, h => by
    simp only [ancB.go, Bool.and_eq_true] at hg
    cases m with
    | zero =>
      simp at h
      subst h
      refine ⟨fun p hp => by simpa [Nat.blt_eq] using List.all_eq_true.1 hg.1 p hp, fun k hk => ?_⟩
      obtain ⟨p, hp, h⟩ := List.any_eq_true.1 (List.all_eq_true.1 hg.2.1 k (by simpa using hk))
      refine ⟨p, hp, ?_⟩
      rw [Bool.or_eq_true] at h
      exact h.imp Nat.eq_of_beq_eq_true inB_ok
    | succ m =>
      obtain ⟨g1, g2⟩ := ancB_go os ls (j0 + 1) hg.2.2 m o (by simpa using h)
      exact ⟨fun p hp => by have := g1 p hp; omega, fun k hk => g2 k (by simpa using hk)⟩
section
variable {ops : Array Oper} {anc : List (List Nat)}
structure Anc (ops : Array Oper) (anc : List (List Nat)) : Prop where
  back : ∀ j o, ops[j]? = some o → ∀ p ∈ predsL o, p < j
  true_ : ∀ j o, ops[j]? = some o → ∀ k ∈ anc.getD j [], ∃ p ∈ predsL o, k = p ∨ k ∈ anc.getD p []
theorem Anc.of {ops : List Oper} {anc : List (List Nat)} (h : ancB ops anc = true) : Anc ops.toArray anc := by
  have key := ancB_go ops anc 0 h
  exact ⟨fun j o hj p hp => by have := (key j o (by simpa using hj)).1 p hp; omega, fun j o hj k hk => (key j o (by simpa using hj)).2 k hk⟩
def Closed (ops : Array Oper) (li : Array Bool) : Prop := ∀ j o, li.getD j false = true → ops[j]? = some o → ∀ p ∈ predsL o, li.getD p false = true
theorem Closed.up (h : Anc ops anc) {li : Array Bool} (hc : Closed ops li) (hsz : li.size = ops.size) : ∀ j, (∃ o, ops[j]? = some o ∧ ∀ p ∈ predsL o, li.getD p false = true) → ∀ k ∈ anc.getD j [], li.getD k false = true := by
  intro j
  induction j using Nat.strongRecOn with
  | _ j ih =>
    rintro ⟨o, ho, hp⟩ k hk
    obtain ⟨p, hpp, h1⟩ := h.true_ j o ho k hk
    rcases h1 with rfl | h1
    · exact hp _ hpp
    · have hlt := h.back j o ho p hpp
      have hj : j < ops.size := (Array.getElem?_eq_some_iff.1 ho).1
      have hop : ops[p]? = some ops[p] := Array.getElem?_eq_getElem (by omega)
      exact ih p hlt ⟨_, hop, hc p _ (hp p hpp) hop⟩ k h1
theorem ready_iff {li : Array Bool} {j : Nat} : j ∈ Region.ready .any ops li ↔ li.getD j true = false ∧ ∃ o, ops[j]? = some o ∧ ∀ p ∈ predsL o, li.getD p false = true := by
  rw [mem_ready]
  refine and_congr Iff.rfl ⟨?_, ?_⟩
  · rintro ⟨o, ho, h⟩
    refine ⟨o, ho, fun p hp => ?_⟩
    obtain ⟨e, he, rfl⟩ := List.mem_map.1 hp
    obtain ⟨h1, h2⟩ := List.mem_filter.1 he
    exact h e (by simpa using h1) h2
  · rintro ⟨o, ho, h⟩
    exact ⟨o, ho, fun e he hb => h _ (List.mem_map.2 ⟨e, List.mem_filter.2 ⟨by simpa using he, hb⟩, rfl⟩)⟩
/-- As long as something isn't listed, something is ready. -/
theorem ready_some (h : Anc ops anc) {li : Array Bool} (hsz : li.size = ops.size) (hr : Region.ready .any ops li = []) : ∀ j, j < ops.size → li.getD j false = true := by
  intro j
  induction j using Nat.strongRecOn with
  | _ j ih =>
    intro hj
    cases hlj : li.getD j false with
    | true => rfl
    | false =>
      have ho : ops[j]? = some ops[j] := Array.getElem?_eq_getElem hj
      have : j ∈ Region.ready .any ops li := ready_iff.2 ⟨by
        have hj' : j < li.size := by omega
        simpa [hj'] using hlj, _, ho, fun p hp => by
        have := h.back j _ ho p hp
        exact ih p this (by omega)⟩
      rw [hr] at this
      cases this
end
def unl (n : Nat) (li : Array Bool) : Nat := (List.range n).countP fun i => !li.getD i false
theorem countP_one {α : Type} {p q : α → Bool} {x : α} : ∀ l : List α, l.Nodup → x ∈ l → p x = true → q x = false → (∀ y ∈ l, y ≠ x → q y = p y) → l.countP q + 1 = l.countP p
  | [], _, h, _, _, _ => by simp at h
  | y :: l, hn, hx, hp, hq, hs => by
    rw [List.nodup_cons] at hn
    by_cases e : y = x
    · subst e
      rw [List.countP_cons_of_neg (by simp [hq]), List.countP_cons_of_pos hp]
      congr 1
      exact List.countP_congr fun z hz => by rw [hs z (List.mem_cons_of_mem _ hz) (fun e => hn.1 (by rw [← e]; exact hz))]
    · have ih := countP_one (p := p) (q := q) l hn.2 ((List.mem_cons.1 hx).resolve_left (Ne.symm e)) hp hq fun z hz => hs z (List.mem_cons_of_mem _ hz)
      have hy := hs y List.mem_cons_self e
      cases hpy : p y with
      | true => rw [List.countP_cons_of_pos (by rw [hy, hpy]), List.countP_cons_of_pos hpy]; omega
      | false => rw [List.countP_cons_of_neg (by simp [hy, hpy]), List.countP_cons_of_neg (by simp [hpy])]; omega
theorem unl_put {n : Nat} {li : Array Bool} (hsz : li.size = n) {i : Nat} (hi : i < n) (h : li.getD i false = false) : unl n (li.setIfInBounds i true) + 1 = unl n li := by
  refine countP_one _ List.nodup_range (List.mem_range.2 hi) (by simpa using h) ?_ fun j hj hne => ?_
  · have : i < li.size := by omega
    simp [this]
  · have : (li.setIfInBounds i true).getD j false = li.getD j false := by
      simp [Array.getElem?_setIfInBounds_ne (Ne.symm hne)]
    rw [this]
end Go.Proofs.YtpeafglbhjjbhaaDoor

