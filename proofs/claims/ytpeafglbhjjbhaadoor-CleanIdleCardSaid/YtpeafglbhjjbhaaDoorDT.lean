/- Deep words, twentieth part: a drawn region, whatever order comes up. -/
import Derived.Test.YtpeafglbhjjbhaaDoorDS
namespace Go.Proofs.YtpeafglbhjjbhaaDoor
open Go Go.RowKit

theorem Rel.eqv {X : Cx} {U U' : Nat → Prop} {S S' : St} {a : Act} {w : World} (h : Rel X U S a w) (ht : ∀ t, S.tm t = S'.tm t) (hr : ∀ r, S.rt r = S'.rt r) (hU : ∀ r, U r → U' r) : Rel X U' S' a w := by
  obtain ⟨N, bs, FP, h⟩ := h
  exact ⟨N, bs, FP, { h with fo := fun f hf => h.fo f (by rwa [ht]), u := fun r hr => hU r (h.u r hr), ts := fun t => by rw [← ht]; exact h.ts t, rs := fun r R hR => h.rs r R (by rw [hr]; exact hR) }⟩
abbrev liB (li : Array Bool) : Nat → Bool := fun i => li.getD i false
abbrev tS (li : Nat → Bool) (l : List Ex) : List (Nat × CT) := sumA (fun e => e.E.t) li l
abbrev rS (li : Nat → Bool) (l : List Ex) : List (Nat × Option Root) := sumA (fun e => e.E.r) li l
def Ud (nx0 : Nat) (li : Nat → Bool) (l : List Ex) : Nat → Prop := fun r => r < nx0 * 64 ∨ ∃ e ∈ l, li e.i = true ∧ r ∈ e.ks
inductive Dn (F : Fence) (n : Nat) (P : Program) (X : Cx) (ops : Array Oper) (anc : List (List Nat)) (t0 : List (Nat × CT)) (r0 : List (Nat × Option Root)) (nx0 : Nat) (li : Nat → Bool) : List Ex → Prop
  | nil : Dn F n P X ops anc t0 r0 nx0 li []
  | cons {e : Ex} {l : List Ex} (h : Dn F n P X ops anc t0 r0 nx0 li l) (ho : ops[e.i]? = some e.o) (hl : li e.i = false → OpL F n P X ops e.o e.d e.ks (fun E => E = e.E)) (hd : e.d.ok ⟨tS (fun _ => true) l ++ t0, rS (fun _ => true) l ++ r0, nx0 + l.length⟩)
      (hk : ∀ k ∈ e.ks, (nx0 + l.length) * 64 ≤ k ∧ k < (nx0 + l.length) * 64 + 64) (hc : okB anc (l.map Ex.en) e.en = true) : Dn F n P X ops anc t0 r0 nx0 li (e :: l)
section
variable {F : Fence} {n : Nat} {P : Program} {X : Cx} {ops : Array Oper} {anc : List (List Nat)} {t0 : List (Nat × CT)} {r0 : List (Nat × Option Root)} {nx0 : Nat} {li li' : Nat → Bool}
theorem Dn.more {l : List Ex} (h : Dn F n P X ops anc t0 r0 nx0 li l) (hm : ∀ i, li i = true → li' i = true) : Dn F n P X ops anc t0 r0 nx0 li' l := by
  induction h with
  | nil => exact .nil
  | cons _ ho hl hd hk hc ih =>
    refine .cons ih ho (fun h => hl ?_) hd hk hc
    cases hi : li _ with
    | false => rfl
    | true => rw [hm _ hi] at h; cases h
theorem Dn.tail {A B : List Ex} (h : Dn F n P X ops anc t0 r0 nx0 li (A ++ B)) : Dn F n P X ops anc t0 r0 nx0 li B := by
  induction A with
  | nil => exact h
  | cons a A ih => cases h with | cons h => exact ih h
theorem Dn.pair {B : List Ex} {e b : Ex} (h : Dn F n P X ops anc t0 r0 nx0 li (e :: B)) (hb : b ∈ B) : b.i ∈ anc.getD e.i [] ∨ b.en.apart e.en = true := by
  cases h with
  | cons _ _ _ _ _ hc =>
    have := List.all_eq_true.1 hc b.en (List.mem_map.2 ⟨b, hb, rfl⟩)
    rw [Bool.or_eq_true] at this
    exact this.imp inB_ok id
theorem Dn.pair' {A B : List Ex} {e a : Ex} (h : Dn F n P X ops anc t0 r0 nx0 li (A ++ e :: B)) (ha : a ∈ A) : e.i ∈ anc.getD a.i [] ∨ e.en.apart a.en = true := by
  obtain ⟨A1, A2, rfl⟩ := List.append_of_mem ha
  rw [List.append_assoc, List.cons_append] at h
  exact h.tail.pair (List.mem_append_right _ List.mem_cons_self)
theorem Dn.keys {l : List Ex} (h : Dn F n P X ops anc t0 r0 nx0 li l) : ∀ e ∈ l, ∀ k ∈ e.ks, k < (nx0 + l.length) * 64 := by
  induction h with
  | nil => intro e he; cases he
  | @cons e l _ _ _ _ hk _ ih =>
    intro e' he k hk'
    rw [List.length_cons]
    rcases List.mem_cons.1 he with rfl | he
    · have := (hk k hk').2; omega
    · have := ih e' he k hk'; omega
theorem Dn.keys' {A B : List Ex} (h : Dn F n P X ops anc t0 r0 nx0 li (A ++ B)) : ∀ e ∈ A, ∀ k ∈ e.ks, (nx0 + B.length) * 64 ≤ k := by
  induction A with
  | nil => intro e he; cases he
  | cons a A ih =>
    cases h with
    | cons h _ _ _ hk _ =>
      intro e he k hk'
      rcases List.mem_cons.1 he with rfl | he
      · have := (hk k hk').1; have hl : (A.append B).length = A.length + B.length := List.length_append; omega
      · exact ih h e he k hk'
theorem apart_read {e : Ent} {f : Ent} (h : e.apart f = true) : (∀ k ∈ e.wt, k ∉ f.dt) ∧ (∀ k ∈ e.wr, k ∉ f.dr) := by
  simp only [Ent.apart, Bool.and_eq_true] at h
  exact ⟨fun k h1 h2 => noneOf_ok h.2.1 h1 h2, fun k h1 h2 => noneOf_ok h.2.2.2.2.1 h1 h2⟩
theorem apart_read' {e : Ent} {f : Ent} (h : e.apart f = true) : (∀ k ∈ f.wt, k ∉ e.dt) ∧ (∀ k ∈ f.wr, k ∉ e.dr) := by
  simp only [Ent.apart, Bool.and_eq_true] at h
  exact ⟨fun k h1 h2 => noneOf_ok h.2.2.1 h1 h2, fun k h1 h2 => noneOf_ok h.2.2.2.2.2 h1 h2⟩
theorem apart_wr {e : Ent} {f : Ent} (h : e.apart f = true) : (∀ k ∈ e.wt, k ∉ f.wt) ∧ (∀ k ∈ e.wr, k ∉ f.wr) := by
  simp only [Ent.apart, Bool.and_eq_true] at h
  exact ⟨fun k h1 h2 => noneOf_ok h.1 h1 h2, fun k h1 h2 => noneOf_ok h.2.2.2.1 h1 h2⟩
/-- What an operation needs is there, whatever has been carried out. -/
theorem d_ok {d : Nd} {A B C : List Ex} (hC : tS li C = tS li B ∧ rS li C = rS li B) (hA : ∀ a ∈ A, li a.i = true → (∀ k ∈ a.en.wt, k ∉ d.t.map (·.1)) ∧ (∀ k ∈ a.en.wr, k ∉ d.r.map (·.1)))
    (hB : ∀ b ∈ B, li b.i = false → (∀ k ∈ b.en.wt, k ∉ d.t.map (·.1)) ∧ (∀ k ∈ b.en.wr, k ∉ d.r.map (·.1))) {m m' : Nat} (hd : d.ok ⟨tS (fun _ => true) B ++ t0, rS (fun _ => true) B ++ r0, m⟩) : d.ok ⟨tS li (A ++ C) ++ t0, rS li (A ++ C) ++ r0, m'⟩ := by
  refine ⟨fun p hp => ?_, fun p hp => ?_⟩
  · have h0 := hd.t p hp
    have hin : p.1 ∈ d.t.map (·.1) := List.mem_map.2 ⟨p, hp, rfl⟩
    simp only [St.tm] at h0 ⊢
    rw [lk_append] at h0 ⊢
    rw [← h0, sumA_skip _ _ C A fun a ha hl hk => (hA a ha hl).1 _ hk hin]
    show lk _ (tS li C) _ = _
    rw [hC.1]
    exact sumA_all _ _ B fun b hb hl hk => (hB b hb hl).1 _ hk hin
  · have h0 := hd.r p hp
    have hin : p.1 ∈ d.r.map (·.1) := List.mem_map.2 ⟨p, hp, rfl⟩
    simp only [St.rt] at h0 ⊢
    rw [lk_append] at h0 ⊢
    rw [← h0, sumA_skip _ _ C A fun a ha hl hk => (hA a ha hl).2 _ hk hin]
    show lk _ (rS li C) _ = _
    rw [hC.2]
    exact sumA_all _ _ B fun b hb hl hk => (hB b hb hl).2 _ hk hin
/-- One more has been carried out. -/
theorem d_put {A B : List Ex} {e : Ex} (h0 : li e.i = false) (h1 : li' e.i = true) (hs : ∀ i, i ≠ e.i → li i = li' i) (hne : ∀ a ∈ A ++ B, a.i ≠ e.i) (hA : ∀ a ∈ A, li a.i = true → e.en.apart a.en = true) {a : Act} {w : World}
    (h : Rel X (fun r => Ud nx0 li (A ++ e :: B) r ∨ r ∈ e.ks) (St.app ⟨tS li (A ++ e :: B) ++ t0, rS li (A ++ e :: B) ++ r0, nx0⟩ e.E) a w) : Rel X (Ud nx0 li' (A ++ e :: B)) ⟨tS li' (A ++ e :: B) ++ t0, rS li' (A ++ e :: B) ++ r0, nx0⟩ a w := by
  refine h.eqv (fun t => ?_) (fun r => ?_) (fun r hr => ?_)
  · simp only [St.tm, St.app]
    rw [← List.append_assoc, lk_append, lk_append (l := tS li' _)]
    exact sumA_put (f := fun e => e.E.t) _ t B h0 h1 A (fun a _ hn => hs _ hn) hne fun a ha hl hk hk' => (apart_wr (hA a ha hl)).1 t hk hk'
  · simp only [St.rt, St.app]
    rw [← List.append_assoc, lk_append, lk_append (l := rS li' _)]
    exact sumA_put (f := fun e => e.E.r) _ r B h0 h1 A (fun a _ hn => hs _ hn) hne fun a ha hl hk hk' => (apart_wr (hA a ha hl)).2 r hk hk'
  · rcases hr with (hr | ⟨e', he', hl, hk⟩) | hr
    · exact .inl hr
    · refine .inr ⟨e', he', ?_, hk⟩
      by_cases e1 : e'.i = e.i
      · rw [e1]; exact h1
      · rw [← hs _ e1]; exact hl
    · exact .inr ⟨e, by simp, h1, hr⟩
/-- The keys of an operation that isn't carried out yet are free. -/
theorem d_free {A B : List Ex} {e : Ex} (hd : Dn F n P X ops anc t0 r0 nx0 li (A ++ e :: B)) (h0 : li e.i = false) (hne : ∀ a ∈ A ++ B, a.i ≠ e.i) : ∀ k ∈ e.ks, ¬ Ud nx0 li (A ++ e :: B) k := by
  intro k hk hu
  have hd1 := hd.tail
  have hd2 : Dn F n P X ops anc t0 r0 nx0 li B := by cases hd1 with | cons h => exact h
  have hke : (nx0 + B.length) * 64 ≤ k ∧ k < (nx0 + B.length) * 64 + 64 := by cases hd1 with | cons _ _ _ _ hk' _ => exact hk' k hk
  rcases hu with hu | ⟨e', he', hl, hk'⟩
  · omega
  · rcases List.mem_append.1 he' with ha | ha
    · have := hd.keys' e' ha k hk'
      rw [List.length_cons] at this
      omega
    · rcases List.mem_cons.1 ha with rfl | ha
      · rw [h0] at hl; cases hl
      · have := hd2.keys e' ha k hk'; omega
end
end Go.Proofs.YtpeafglbhjjbhaaDoor

