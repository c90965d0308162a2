/- Deep words, three and twentieth part: the rows inside of an element become roots, and go back. -/
import Derived.Test.YtpeafglbhjjbhaaDoorDV
namespace Go.Proofs.YtpeafglbhjjbhaaDoor
open Go Go.RowKit

theorem rA_len : ∀ (k : Nat) (l : List CT), (rA k l).length = l.length
  | _, [] => rfl
  | k, c :: l => by simp [rA, rA_len (k + 1) l]
section
variable {X : Cx} {U : Nat → Prop} {S : St} {a : Act} {w : World} {N : Nat → Prop} {bs : Bs} {FP : Nat → Nat → Prop}
theorem RelI.some_root (h : RelI X U S a w N bs FP) {k e sz : Nat} {els : List (List CT)} (hr : S.rt k = some ⟨e, sz, els⟩) {i : Nat} {es : List CT} (hi : els[i]? = some es) : ∃ g off cap, bs k = some (some (g, off, cap)) := by
  obtain ⟨x, hx, hv⟩ := h.rs k _ hr
  cases x with
  | some x => exact ⟨x.1, x.2.1, x.2.2, hx⟩
  | none =>
    simp only [hdr] at hv
    cases hv with
    | nil => simp at hi
/-- A root is forgotten. -/
theorem RelI.drop (h : RelI X U S a w N bs FP) (k : Nat) : RelI X U ⟨S.t, (k, none) :: S.r, S.nx⟩ a w N bs (upd FP k NoB) := by
  refine h.next (D := NoB) (Chd.refl _ _) (fun _ h => h.elim) (fun _ h => h) h.n1 h.u ?_ ?_ h.sz rfl h.ts ?_ (fun r q hq => by
    by_cases e : r = k
    · rw [e, upd_same] at hq; exact hq.elim
    · rw [upd_ne _ _ e] at hq; exact .inl ⟨r, hq⟩) (fun _ h => h) (fun _ _ h => h)
  · intro r q hq
    by_cases e : r = k
    · rw [e, upd_same] at hq; exact hq.elim
    · rw [upd_ne _ _ e] at hq; exact h.f1 r q hq
  · intro r r' q hq hq'
    by_cases e : r = k
    · rw [e, upd_same] at hq; exact hq.elim
    · by_cases e' : r' = k
      · rw [e', upd_same] at hq'; exact hq'.elim
      · rw [upd_ne _ _ e] at hq; rw [upd_ne _ _ e'] at hq'; exact h.f2 r r' q hq hq'
  · intro r R hR
    have hR : (if k = r then none else S.rt r) = some R := hR
    split at hR
    · cases hR
    · rename_i e
      rw [upd_ne FP _ (Ne.symm e)]
      exact h.rs r R hR
theorem RelI.openE (h : RelI X U S a w N bs FP) {k e sz i key : Nat} {els : List (List CT)} {es : List CT} (hr : S.rt k = some ⟨e, sz, els⟩) (hi : els[i]? = some es) (hk : ∀ j, j < es.length → ¬ U (key + j)) :
    ∃ bs' FP', RelI X (fun r => U r ∨ (key ≤ r ∧ r < key + es.length)) ⟨S.t, (k, some ⟨e, sz, els.set i (rA key es)⟩) :: (rR key es ++ S.r), S.nx⟩ a w N bs' FP' := by
  obtain ⟨g, off, cap, hb⟩ := h.some_root hr hi
  obtain ⟨cur, us, Q, hg, hh, hs, hcl, hm, hz, hQ, hd, hw, h1, hv⟩ := h.root hb hr
  have h2 := RelI.bare (t := S.t) (nx := S.nx) (h.drop k)
  obtain ⟨bs', FP', g1, g2, g3, g4⟩ := RelI.addLB _ w N X es (us i) (Q i) key U _ bs _ h2 (bare_of _ _ _ _) hk (fun j c hj => hv i j es c hi hj) (fun j q hq => by
    have hq' := (hQ i j q hq).1
    obtain ⟨e1, e2, e3⟩ := h.f1 k q hq'
    refine ⟨e1, e2, e3, fun r hr' => ?_⟩
    by_cases er : r = k
    · rw [er, upd_same] at hr'; exact hr'
    · rw [upd_ne _ _ er] at hr'; exact er (h.f2 r k q hr' hq')) (fun j j' q e1 e2 => (hd i j i j' q e1 e2).2)
  have hother : ∀ r q, r ≠ k → FP' r q → FP r q ∨ ∃ j, Q i j q := fun r q er hq => (g4 r q hq).imp (fun h => by rwa [upd_ne _ _ er] at h) id
  have hFP : ∀ r q, FP' r q → (∃ r', FP r' q) ∨ w.heap.size ≤ q := fun r q hq => .inl ((g4 r q hq).elim (fun h => ⟨r, by
    by_cases er : r = k
    · rw [er, upd_same] at h; exact h.elim
    · rwa [upd_ne _ _ er] at h⟩) fun ⟨j, hj⟩ => ⟨k, (hQ i j q hj).1⟩)
  have hfd := h.fd (D := NoB) (FP' := FP') (N' := N) (Chd.refl _ _) (fun _ h => h.elim) (fun _ h => h) (fun _ h => .inl h) hFP
  have hFP2 : ∀ r q, upd FP' k (fun q => FP k q ∧ ¬ ∃ j, Q i j q) r q → (∃ r', FP r' q) ∨ w.heap.size ≤ q := fun r q hq => by
    by_cases er : r = k
    · rw [er, upd_same] at hq; exact .inl ⟨k, hq.1⟩
    · rw [upd_ne _ _ er] at hq; exact hFP r q hq
  have hfd2 := h.fd (D := NoB) (FP' := upd FP' k fun q => FP k q ∧ ¬ ∃ j, Q i j q) (N' := N) (Chd.refl _ _) (fun _ h => h.elim) (fun _ h => h) (fun _ h => .inl h) hFP2
  have g1 := RelI.unbare (r' := S.r) (nx' := S.nx) g1 hfd.1 hfd.2 ((h.ts FS).refs g2)
  refine ⟨bs', upd FP' k fun q => FP k q ∧ ¬ ∃ j, Q i j q, {
    blk := g1.blk
    size := g1.size
    os := g1.os
    tape := g1.tape
    output := g1.output
    n1 := g1.n1
    n0 := g1.n0
    n2 := g1.n2
    u := g1.u
    sz := g1.sz
    pk := g1.pk
    nl := g1.nl
    df := hfd2.2
    fo := hfd2.1
    gl := g1.gl
    ts := g1.ts
    f1 := ?g1
    f2 := ?g2
    rs := ?g3 }⟩
  case g1 =>
    intro r q hq
    by_cases er : r = k
    · rw [er, upd_same] at hq; exact h.f1 k q hq.1
    · rw [upd_ne _ _ er] at hq; exact g1.f1 r q hq
  case g2 =>
    intro r r' q hq hq'
    by_cases er : r = k <;> by_cases er' : r' = k
    · rw [er, er']
    · rw [er, upd_same] at hq; rw [upd_ne _ _ er'] at hq'
      rcases hother r' q er' hq' with h' | h'
      · rw [er]; exact h.f2 k r' q hq.1 h'
      · exact absurd h' hq.2
    · rw [er', upd_same] at hq'; rw [upd_ne _ _ er] at hq
      rcases hother r q er hq with h' | h'
      · rw [er']; exact h.f2 r k q h' hq'.1
      · exact absurd h' hq'.2
    · rw [upd_ne _ _ er] at hq; rw [upd_ne _ _ er'] at hq'; exact g1.f2 r r' q hq hq'
  case g3 =>
    intro r R hR
    have hR2 : (if k = r then some ⟨e, sz, els.set i (rA key es)⟩ else lk none (rR key es ++ S.r) r) = some R := hR
    split at hR2
    · rename_i er
      subst er
      cases hR2
      refine ⟨_, g2 _ _ hb, ?_⟩
      rw [upd_same]
      have hlen : i < els.length := (List.getElem?_eq_some_iff.1 hi).1
      have hcell : ∀ (i' o : Nat) (es' : List CT) (c : CT), (els.set i (rA key es))[i']? = some es' → es'[o]? = some c → ∃ es0 c0, els[i']? = some es0 ∧ es0[o]? = some c0 := by
        intro i' o es' c hi' ho
        rcases set_get hi' with ⟨rfl, rfl⟩ | ⟨_, h'⟩
        · have := (List.getElem?_eq_some_iff.1 ho).1
          rw [rA_len] at this
          exact ⟨es, _, hi, List.getElem?_eq_getElem this⟩
        · exact ⟨_, _, h', ho⟩
      refine .own g off _ cap cur us (fun i' o q => i' ≠ i ∧ Q i' o q) rfl ⟨hg, fun ⟨j, hj⟩ => (hQ i j _ hj).2 rfl⟩ hh hs (by simpa using hcl) hm ?_ ?_ ?_ ?_ ?_ ?_
      · intro es' he
        rcases List.mem_or_eq_of_mem_set he with he | rfl
        · exact hz es' he
        · rw [rA_len]; exact hz es (List.mem_of_getElem? hi)
      · rintro i' o q ⟨hne, hq⟩
        exact ⟨⟨(hQ i' o q hq).1, fun ⟨j, hj⟩ => hne (hd i' o i j q hq hj).1⟩, (hQ i' o q hq).2⟩
      · rintro i1 o1 i2 o2 q ⟨_, h1⟩ ⟨_, h2⟩
        exact hd i1 o1 i2 o2 q h1 h2
      · intro i' o es' c hi' ho
        obtain ⟨es0, c0, e1, e2⟩ := hcell i' o es' c hi' ho
        exact hw i' o es0 c0 e1 e2
      · intro i' o es' c hi' ho
        obtain ⟨es0, c0, e1, e2⟩ := hcell i' o es' c hi' ho
        exact h1 i' o es0 c0 e1 e2
      · intro i' o es' c hi' ho
        rcases set_get hi' with ⟨rfl, rfl⟩ | ⟨hne, h'⟩
        · exact (g3 o c ho).mono fun _ h => h.elim
        · exact ((hv i' o es' c h' ho).refs g2).mono fun q hq => ⟨hne, hq⟩
    · rename_i er
      rw [upd_ne FP' _ (Ne.symm er)]
      refine g1.rs r R ?_
      show lk none (rR key es ++ (k, none) :: S.r) r = some R
      rw [lk_append] at hR2 ⊢
      rw [lk_ne _ _ _ er]
      exact hR2
/-- No single cells among them. -/
def noOp (l : List CT) : Bool := l.all fun c => match c with | .op _ _ _ => false | _ => true
theorem RelI.closeE (h : RelI X U S a w N bs FP) {k e sz i : Nat} {els : List (List CT)} {es es' : List CT} {ks : List Nat} (hr : S.rt k = some ⟨e, sz, els⟩) (hi : els[i]? = some es) (hs : ShL S es es' ks) (hnd : ks.Nodup) (hk : k ∉ ks) (hop : noOp es' = true) :
    RelI X U ⟨S.t, (k, some ⟨e, sz, els.set i es'⟩) :: (noneR ks ++ S.r), S.nx⟩ a w N bs (fun r q => if r = k then FP k q ∨ Kp FP ks q else if r ∈ ks then False else FP r q) := by
  obtain ⟨g, off, cap, hb⟩ := h.some_root hr hi
  obtain ⟨cur, us, Q, hg, hh, hs', hcl, hm, hz, hQ, hd, hw, h1, hv⟩ := h.root hb hr
  obtain ⟨p1, Q', p2, p3, p4⟩ := hs.hc h hnd (us i) (Q i) (fun j c hj => hv i j es c hi hj) (fun j j' q e1 e2 => (hd i j i j' q e1 e2).2) (fun j q hq k' hk' hq' => by
    have := h.f2 k k' q (hQ i j q hq).1 hq'
    subst this
    exact hk hk')
  have hfar : ∀ q, Kp FP ks q → ¬ FP k q := fun q ⟨k', hk', hq⟩ hq' => by
    have := h.f2 k' k q hq hq'
    subst this
    exact hk hk'
  refine h.next (D := NoB) (Chd.refl _ _) (fun _ h => h.elim) (fun _ h => h) h.n1 h.u ?_ ?_ h.sz rfl h.ts ?_ (fun r q hq => by
    split at hq
    · rcases hq with hq | ⟨k', _, hq⟩
      · exact .inl ⟨k, hq⟩
      · exact .inl ⟨k', hq⟩
    · split at hq
      · exact hq.elim
      · exact .inl ⟨r, hq⟩) (fun _ h => h) (fun _ _ h => h)
  · intro r q hq
    split at hq
    · rcases hq with hq | ⟨k', _, hq⟩
      · exact h.f1 k q hq
      · exact h.f1 k' q hq
    · split at hq
      · exact hq.elim
      · exact h.f1 r q hq
  · have key : ∀ r r' q, r = k → r' ≠ k → r' ∉ ks → (FP k q ∨ Kp FP ks q) → FP r' q → r = r' := fun r r' q e1 e2 e3 hq hq' => by
      rcases hq with hq | ⟨k', hk', hq⟩
      · exact absurd (h.f2 k r' q hq hq').symm e2
      · have := h.f2 k' r' q hq hq'
        subst this
        exact absurd hk' e3
    intro r r' q hq hq'
    split at hq
    · rename_i e1
      split at hq'
      · rename_i e2; rw [e1, e2]
      · rename_i e2
        split at hq'
        · exact hq'.elim
        · rename_i e3; exact key r r' q e1 e2 e3 hq hq'
    · rename_i e1
      split at hq
      · exact hq.elim
      · rename_i e3
        split at hq'
        · rename_i e2; exact (key r' r q e2 e1 e3 hq' hq).symm
        · split at hq'
          · exact hq'.elim
          · exact h.f2 r r' q hq hq'
  · intro r R hR
    have hR2 : (if k = r then some ⟨e, sz, els.set i es'⟩ else lk none (noneR ks ++ S.r) r) = some R := hR
    split at hR2
    · rename_i er
      subst er
      cases hR2
      refine ⟨_, hb, ?_⟩
      have hlen : i < els.length := (List.getElem?_eq_some_iff.1 hi).1
      have hcell : ∀ (i' o : Nat) (es2 : List CT) (c : CT), (els.set i es')[i']? = some es2 → es2[o]? = some c → ∃ es0 c0, els[i']? = some es0 ∧ es0[o]? = some c0 := by
        intro i' o es2 c hi' ho
        rcases set_get hi' with ⟨rfl, rfl⟩ | ⟨_, h'⟩
        · have := (List.getElem?_eq_some_iff.1 ho).1
          rw [p1] at this
          exact ⟨es, _, hi, List.getElem?_eq_getElem this⟩
        · exact ⟨_, _, h', ho⟩
      have hQ'g : ∀ o q, Q' o q → (FP k q ∨ Kp FP ks q) ∧ q ≠ g := fun o q hq => by
        rcases p3 o q hq with h' | h'
        · exact ⟨.inl (hQ i o q h').1, (hQ i o q h').2⟩
        · exact ⟨.inr h', fun e => hfar q h' (by rw [e]; exact hg)⟩
      have hmix : ∀ o q i' o', Q' o q → i' ≠ i → Q i' o' q → False := fun o q i' o' hq hne hq' => by
        rcases p3 o q hq with h' | h'
        · exact hne (hd i' o' i o q hq' h').1
        · exact hfar q h' (hQ i' o' q hq').1
      have e1 : (fun q => if k = k then FP k q ∨ Kp FP ks q else if k ∈ ks then False else FP k q) = fun q => FP k q ∨ Kp FP ks q := by
        funext q
        rw [if_pos rfl]
      rw [e1]
      refine .own g off _ cap cur us (fun i' o q => if i' = i then Q' o q else Q i' o q) rfl (.inl hg) hh hs' (by simpa using hcl) hm ?_ ?_ ?_ ?_ ?_ ?_
      · intro es2 he
        rcases List.mem_or_eq_of_mem_set he with he | rfl
        · exact hz es2 he
        · rw [p1]; exact hz es (List.mem_of_getElem? hi)
      · intro i' o q hq
        split at hq
        · exact hQ'g o q hq
        · exact ⟨.inl (hQ i' o q hq).1, (hQ i' o q hq).2⟩
      · intro i1 o1 i2 o2 q e1 e2
        split at e1
        · rename_i c1
          split at e2
          · rename_i c2; exact ⟨by rw [c1, c2], p4 o1 o2 q e1 e2⟩
          · rename_i c2; exact (hmix o1 q i2 o2 e1 c2 e2).elim
        · rename_i c1
          split at e2
          · exact (hmix o2 q i1 o1 e2 c1 e1).elim
          · exact hd i1 o1 i2 o2 q e1 e2
      · intro i' o es2 c hi' ho
        obtain ⟨es0, c0, e1, e2⟩ := hcell i' o es2 c hi' ho
        exact hw i' o es0 c0 e1 e2
      · intro i' o es2 c hi' ho
        obtain ⟨es0, c0, e1, e2⟩ := hcell i' o es2 c hi' ho
        exact h1 i' o es0 c0 e1 e2
      · intro i' o es2 c hi' ho
        rcases set_get hi' with ⟨rfl, rfl⟩ | ⟨hne, h'⟩
        · refine HV.mono (P := Q' o) ?_ fun q hq => by simpa using hq
          have hc := p2 o c ho
          have hno := List.all_eq_true.1 hop c (List.mem_of_getElem? ho)
          generalize us i' o = u at hc ⊢
          cases hc with
          | op hv => simp at hno
          | cell hv => exact hv.refs (fun _ _ h => by cases h)
        · exact HV.mono (P := Q i' o) (hv i' o es2 c h' ho) fun q hq => by simpa [hne] using hq
    · rename_i er
      rw [lk_noneR] at hR2
      split at hR2
      · cases hR2
      · rename_i hnk
        obtain ⟨x, hx, hv⟩ := h.rs r R hR2
        refine ⟨x, hx, ?_⟩
        have e1 : (fun q => if r = k then FP k q ∨ Kp FP ks q else if r ∈ ks then False else FP r q) = FP r := by
          funext q
          rw [if_neg (Ne.symm er), if_neg hnk]
        rw [e1]
        exact hv
end
section
variable {F : Fence} {n : Nat} {P : Program} {X : Cx} {Q : Exit → St → Prop} {t : List (Nat × CT)} {r : List (Nat × Option Root)} {nx : Nat} {c : Code}
/-- The rows inside of an element become roots. -/
theorem le_open (k i : Nat) {e sz : Nat} {els : List (List CT)} {es : List CT} (hr : St.rt ⟨t, r, nx⟩ k = some ⟨e, sz, els⟩) (hi : els[i]? = some es) (hl : Nat.ble es.length 64 = true) : St.le X ⟨t, r, nx⟩ ⟨t, (k, some ⟨e, sz, els.set i (rA (nx * 64) es)⟩) :: (rR (nx * 64) es ++ r), nx + 1⟩ := fun a w hR => by
  obtain ⟨N, bs, FP, h⟩ := hR
  have hl' := Nat.le_of_ble_eq_true hl
  obtain ⟨bs', FP', h'⟩ := h.openE hr hi (key := nx * 64) fun j hj hu => by
    have : nx * 64 + j < nx * 64 := hu
    omega
  refine ⟨N, bs', FP', RelI.weakU (h'.nx rfl rfl) fun q hq => ?_⟩
  show q < (nx + 1) * 64
  rcases hq with hq | hq
  · have : q < nx * 64 := hq
    omega
  · omega
/-- They go back. -/
theorem le_close (k i : Nat) {e sz : Nat} {els : List (List CT)} {es es' : List CT} {ks : List Nat} (hr : St.rt ⟨t, r, nx⟩ k = some ⟨e, sz, els⟩) (hi : els[i]? = some es) (hs : ShL ⟨t, r, nx⟩ es es' ks) (hnd : ks.Nodup) (hk : k ∉ ks) (hop : noOp es' = true) : St.le X ⟨t, r, nx⟩ ⟨t, (k, some ⟨e, sz, els.set i es'⟩) :: (noneR ks ++ r), nx⟩ := fun a w hR => by
  obtain ⟨N, bs, FP, h⟩ := hR
  exact ⟨N, bs, _, h.closeE hr hi hs hnd hk hop⟩
end
end Go.Proofs.YtpeafglbhjjbhaaDoor

