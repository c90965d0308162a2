/- Deep words, tenth part: the builtin append. -/
import Derived.Test.YtpeafglbhjjbhaaDoorDI
namespace Go.Proofs.YtpeafglbhjjbhaaDoor
open Go Go.RowKit

section
variable {X : Cx} {U : Nat → Prop} {S : St} {a : Act} {w : World} {N : Nat → Prop} {bs : Bs} {FP : Nat → Nat → Prop} {P : Program}
theorem src_cells {A : Option Addr} {m c sz : Nat} {us : Nat → Nat → Value} {nls : List (List CT)} (hl : nls.length = m) (hz : ∀ es ∈ nls, es.length = sz) {b off : Nat} (hc : ∀ i o es c, nls[i]? = some es → es[o]? = some c → w.cell? ⟨b, off + (i * sz + o), none⟩ = some (us i o)) (h1 : ∀ i o es c, nls[i]? = some es → es[o]? = some c → (us i o).oneCell' = true) :
    (∀ j u, (flatV us m sz)[j]? = some u → w.cell? ((⟨b, off, none⟩ : Addr).add j) = some u) ∧ (∀ u ∈ flatV us m sz, u.oneCell' = true) := by
  have key : ∀ j u, (flatV us m sz)[j]? = some u → ∃ es c, nls[j / sz]? = some es ∧ es[j % sz]? = some c ∧ u = us (j / sz) (j % sz) ∧ j / sz * sz + j % sz = j := fun j u hj => by
    obtain ⟨h1, h2, h3, h4⟩ := flatV_at us hj
    have hi : j / sz < nls.length := by omega
    have he : (nls[j / sz]).length = sz := hz _ (List.getElem_mem _)
    exact ⟨_, _, List.getElem?_eq_getElem hi, List.getElem?_eq_getElem (by omega), h4, by have := Nat.div_add_mod j sz; rw [Nat.mul_comm] at this; exact this⟩
  refine ⟨fun j u hj => ?_, fun u hu => ?_⟩
  · obtain ⟨es, c, g1, g2, rfl, g4⟩ := key j u hj
    have := hc _ _ es c g1 g2
    rw [g4] at this
    rwa [add_plain']
  · obtain ⟨j, hj⟩ := List.mem_iff_getElem?.1 hu
    obtain ⟨es, c, g1, g2, rfl, _⟩ := key j u hj
    exact h1 _ _ es c g1 g2
/-- An append to nil. -/
theorem append_nil (h : RelI X U S a w N bs FP) {d : Option Nat} (hdn : ∀ k, d = some k → k < X.nt) {key : Nat} (hk : ¬ U key) {T e sz by_ ty : Nat} (E : ElemT P T e sz by_) (kl : List Nat) {FP2 : Nat → Prop} {u : Value} {nls : List (List CT)} (hs : Src w N bs FP2 sz u nls) (hkl : ∀ q, FP2 q → ∃ k ∈ kl, FP k q) (hb : nls.length * by_ ≤ 140737488355328) (h63 : nls.length ≤ 9223372036854775807) :
    ∃ v w', (Builtin.append_ #[T, T] ty #[.slice none 0 0, u]).run P w = .ok v w' ∧ Rel X (fun r => U r ∨ r ∈ [key]) (S.app ⟨tE d (.rf key 0 nls.length sz), (key, some ⟨e, sz, nls⟩) :: noneR kl⟩) (a.put d v) w' := by
  obtain ⟨ht, ⟨i, z, hi, hz, hsz, hby, hzs⟩, hpos⟩ := E
  obtain ⟨A, m, c, us, Q, rfl, hm, hnz, hA, hw, hQ, hdj⟩ := hs.out
  subst hsz
  by_cases hm0 : m = 0
  · have hn0 : nls = [] := List.eq_nil_of_length_eq_zero (by omega)
    subst hn0
    subst hm0
    refine ⟨.slice none 0 0, w, ?_, ?_⟩
    · cases A with
      | none => exact run_app_none w T ty e i ht hi none 0 0 c (Nat.le_refl _)
      | some ad => exact run_app_empty w T ty e i ht hi none ad 0 0 c (Nat.le_refl _)
    · refine ⟨N, _, _, h.take (d := d) hdn hk kl (Chd.refl NoB w) (fun _ h => h.elim) (FPk := NoB) (b := none) (fun q h => h.elim) ?_ ?_⟩
      · exact .nil
      · exact .rfNil (upd_same bs key _)
  · have hne : nls ≠ [] := fun e => hm0 (by rw [← hm, e]; rfl)
    obtain ⟨b, off, rfl, hc⟩ := hA hne
    obtain ⟨g1, g2⟩ := src_cells (A := none) (c := c) hm hnz hc (fun i o es c hi ho => (hw i o es c hi ho).1)
    subst hm
    subst hby
    have hr := run_append_nil (P := P) w T ty e i z ht hi hz ⟨b, off, none⟩ nls.length c (flatV us nls.length i.size) (flatV_len _ _ _) g1 (by omega) (by omega) (by omega)
    have hge := grownCap_ge w nls.length 0 e
    have hcm := grownCap_le_maxLen w nls.length 0 e (by simp only [maxLen]; omega)
    obtain ⟨N', bs', FP', hR⟩ := h.grown (d := d) hdn hk kl (e := e) (sz := i.size) (m := 0) (cap := grownCap w nls.length 0 e) (els0 := []) (nls := nls) (fun _ _ => undef) us (fun _ _ _ => False) Q (z := z.cells) hzs rfl (by omega) (by simp only [maxLen] at hcm; omega) (by simp) hnz (fun _ _ _ h => h.elim) (fun i o q hq => hkl q (hQ i o q hq)) (fun _ _ _ _ _ h => h.elim) hdj (fun _ _ _ _ _ h => h.elim) (fun i o es c hi => by simp at hi) hw
    refine ⟨_, _, hr, ?_⟩
    have e0 : (flatV (fun _ _ => undef) 0 i.size) = [] := by simp [flatV]
    simp only [e0, Nat.zero_add, List.nil_append, Array.empty_append] at hR
    exact ⟨N', bs', FP', hR⟩
/-- An append to a root. -/
theorem append_root (h : RelI X U S a w N bs FP) {d : Option Nat} (hdn : ∀ k, d = some k → k < X.nt) {key : Nat} (hk : ¬ U key) {T e sz by_ ty k lo m : Nat} {els : List (List CT)} {v : Value} (E : ElemT P T e sz by_) (hv : HV w N bs NoB (.rf k lo m sz) v) (hr : S.rt k = some ⟨e, sz, els⟩) (hle : lo + m ≤ els.length)
    (kl : List Nat) (hkk : k ∈ kl) {FP2 : Nat → Prop} {u : Value} {nls : List (List CT)} (hs : Src w N bs FP2 sz u nls) (hkl : ∀ q, FP2 q → (∃ k ∈ kl, FP k q) ∧ ¬ FP k q) (hlo : lo = 0 ∨ nls ≠ []) (hb : (m + nls.length) * by_ ≤ 140737488355328) (h63 : m + nls.length ≤ 9223372036854775807) :
    ∃ v' w', (Builtin.append_ #[T, T] ty #[v, u]).run P w = .ok v' w' ∧ Rel X (fun r => U r ∨ r ∈ [key]) (S.app ⟨tE d (.rf key 0 (m + nls.length) sz), (key, some ⟨e, sz, (els.drop lo).take m ++ nls⟩) :: noneR kl⟩) (a.put d v') w' := by
  cases hv with
  | rfNil hb0 =>
    obtain ⟨x, hx, hv⟩ := h.rs k _ hr
    rw [hb0] at hx
    cases hx
    simp only [hdr] at hv
    cases hv
    have := append_nil (ty := ty) h hdn hk E kl hs (fun q hq => (hkl q hq).1) (by simpa using hb) (by simpa using h63)
    simpa using this
  | rf A g off cap hb0 hn hm63 hA =>
    obtain ⟨cur, us1, Q1, hg, hh, hcs, hcl, hcm, hz, hQ1, hdj1, hw1, h11, hv1⟩ := h.root hb0 hr
    obtain ⟨ht, ⟨i, z, hi, hiz, hsz, hby, hzs⟩, hpos⟩ := E
    obtain ⟨A2, m2, c, us, Q, rfl, hm, hnz, hA2, hw, hQ, hdj⟩ := hs.out
    subst hsz
    subst hm
    by_cases hm0 : nls.length = 0
    · have hn0 : nls = [] := List.eq_nil_of_length_eq_zero hm0
      subst hn0
      have hlo0 : lo = 0 := hlo.resolve_right (fun h => h rfl)
      subst hlo0
      have hA' := hA (.inr rfl)
      subst hA'
      have hrun : (Builtin.append_ #[T, T] ty #[.slice (some ⟨g, off + 0 * i.size, none⟩) m (cap - 0), .slice A2 0 c]).run P w = .ok (.slice (some ⟨g, off + 0 * i.size, none⟩) m (cap - 0)) w := by
        cases A2 with
        | none => exact run_app_none w T ty e i ht hi _ m (cap - 0) c (by omega)
        | some ad => exact run_app_empty w T ty e i ht hi _ ad m (cap - 0) c (by omega)
      refine ⟨_, _, hrun, ?_⟩
      obtain ⟨N', bs', FP', hR⟩ := h.inplace (d := d) hdn hk (k := k) kl hkk (nls := []) us Q hb0 hr hle (by simpa using hn) (by simp) (fun i o q hq => hkl q (hQ i o q hq)) hdj (fun i o es c hi => by simp at hi) hh hh rfl (Chd.refl _ _) (fun _ _ => rfl) (fun i o hi => by simp at hi)
      exact ⟨N', bs', FP', hR⟩
    · have hne : nls ≠ [] := fun e => hm0 (by rw [e]; rfl)
      obtain ⟨b2, off2, rfl, hc2⟩ := hA2 hne
      obtain ⟨g1, g2⟩ := src_cells (A := none) (c := c) rfl hnz hc2 (fun i o es c hi ho => (hw i o es c hi ho).1)
      by_cases hroom : m + nls.length ≤ cap - lo
      · have hA' := hA (.inl (by omega))
        subst hA'
        have hfit : off + lo * i.size + m * i.size + (flatV us nls.length i.size).length ≤ cur.size := by
          rw [flatV_len, hcs]
          have : (lo + m + nls.length) * i.size ≤ cap * i.size := Nat.mul_le_mul_right _ (by omega)
          rw [Nat.add_mul, Nat.add_mul] at this
          omega
        have hrun := run_app_room (P := P) w T ty e i ht hi g (off + lo * i.size) m (cap - lo) cur hh ⟨b2, off2, none⟩ nls.length c (flatV us nls.length i.size) (flatV_len _ _ _) g1 g2 hroom hfit
        refine ⟨_, _, hrun, ?_⟩
        have hlen : (cur.toList.take (off + lo * i.size + m * i.size) ++ flatV us nls.length i.size ++ cur.toList.drop (off + lo * i.size + m * i.size + (flatV us nls.length i.size).length)).toArray.size = cur.size := by
          simp; omega
        obtain ⟨N', bs', FP', hR⟩ := h.inplace (d := d) hdn hk (k := k) (w' := w.setRow g _) kl hkk (nls := nls) us Q hb0 hr hle (by omega) hnz (fun i o q hq => hkl q (hQ i o q hq)) hdj hw hh (setRow_heap w g cur _ e _ hh) hlen
          ⟨by rw [size_setRow]; exact Nat.le_refl _, rfl, rfl, rfl, fun q hq hne => setRow_other w g q _ hne⟩ (fun j hj => by
            rw [Nat.add_mul] at hj
            rw [List.getElem?_toArray, List.append_assoc, List.getElem?_append_left (by simp; omega), List.getElem?_take_of_lt (by omega), Array.getElem?_toList]) (fun i' o hi' ho => by
            have hf := flatV_get us hi' ho
            have hlt := (List.getElem?_eq_some_iff.1 hf).1
            have hx : off + ((lo + m + i') * i.size + o) - (off + lo * i.size + m * i.size) = i' * i.size + o := by rw [Nat.add_mul, Nat.add_mul]; omega
            have hge : off + lo * i.size + m * i.size ≤ off + ((lo + m + i') * i.size + o) := by rw [Nat.add_mul, Nat.add_mul]; omega
            rw [List.getElem?_toArray, List.append_assoc, List.getElem?_append_right (by rw [List.length_take]; omega), List.length_take, Nat.min_eq_left (by simp; omega), hx, List.getElem?_append_left hlt]
            exact hf)
        exact ⟨N', bs', FP', hR⟩
      · have hgrow : cap - lo < m + nls.length := by omega
        subst hby
        have hge := grownCap_ge w (m + nls.length) (cap - lo) e
        have hcm' := grownCap_le_maxLen w (m + nls.length) (cap - lo) e (by simp only [maxLen]; omega)
        have hgr := h.grown (d := d) hdn hk kl (e := e) (sz := i.size) (m := m) (cap := grownCap w (m + nls.length) (cap - lo) e) (els0 := (els.drop lo).take m) (nls := nls) (fun i o => us1 (lo + i) o) us (fun i o q => Q1 (lo + i) o q) Q (z := z.cells) hzs (by simp; omega) hge (by simp only [maxLen] at hcm'; omega)
          (fun es he => hz es (List.mem_of_mem_drop (List.mem_of_mem_take he))) hnz (fun i o q hq => ⟨k, hkk, (hQ1 _ o q hq).1⟩) (fun i o q hq => (hkl q (hQ i o q hq)).1) (fun i o i' o' q h1 h2 => by
            obtain ⟨e1, e2⟩ := hdj1 _ _ _ _ q h1 h2
            exact ⟨by omega, e2⟩) hdj (fun i o i' o' q h1 h2 => (hkl q (hQ i' o' q h2)).2 (hQ1 _ o q h1).1)
          (fun i o es c hi ho => by
            obtain ⟨_, hi⟩ := cut_at hi
            exact ⟨h11 _ o es c hi ho, hv1 _ o es c hi ho⟩) hw
        rcases A with _ | ad
        · have hm00 : m = 0 := by
            by_cases hc : lo < cap ∨ lo = 0
            · cases hA hc
            · omega
          have hc0 : cap - lo = 0 := by
            by_cases hc : lo < cap ∨ lo = 0
            · cases hA hc
            · omega
          subst hm00
          rw [hc0] at hgr ⊢
          have hrun := run_append_nil (P := P) w T ty e i z ht hi hiz ⟨b2, off2, none⟩ nls.length c (flatV us nls.length i.size) (flatV_len _ _ _) g1 (by omega) (by omega) (by simp only [Nat.zero_add] at hb; omega)
          refine ⟨_, _, hrun, ?_⟩
          obtain ⟨N', bs', FP', hR⟩ := hgr
          have e0 : (flatV (fun i o => us1 (lo + i) o) 0 i.size) = [] := by simp [flatV]
          simp only [e0, Nat.zero_add, Array.empty_append] at hR ⊢
          exact ⟨N', bs', FP', hR⟩
        · have holds : ∀ j u, (flatV (fun i o => us1 (lo + i) o) m i.size)[j]? = some u → w.cell? (ad.add j) = some u := by
            intro j u hj
            have hm0' : 0 < m := by
              rcases Nat.eq_zero_or_pos m with e | e
              · subst e; simp [flatV] at hj
              · exact e
            have hA' := hA (by omega)
            cases hA'
            have hcl' : ∀ i' o es c, ((els.drop lo).take m)[i']? = some es → es[o]? = some c → w.cell? ⟨g, off + lo * i.size + (i' * i.size + o), none⟩ = some (us1 (lo + i') o) := fun i' o es c hi' ho => by
              obtain ⟨_, hi'⟩ := cut_at hi'
              have := hw1 _ o es c hi' ho
              simp only [World.cell?, hh]
              rw [Nat.add_mul] at this
              simpa [Nat.add_assoc] using this
            exact (src_cells (A := none) (c := c) (nls := (els.drop lo).take m) (by simp; omega) (fun es he => hz es (List.mem_of_mem_drop (List.mem_of_mem_take he))) hcl' (fun i o es c hi ho => by
              obtain ⟨_, hi⟩ := cut_at hi
              exact h11 _ o es c hi ho)).1 j u hj
          have hrun := run_append_grow (P := P) w T ty e i z ht hi hiz ad m (cap - lo) (flatV (fun i o => us1 (lo + i) o) m i.size) (flatV_len _ _ _) holds ⟨b2, off2, none⟩ nls.length c (flatV us nls.length i.size) (flatV_len _ _ _) g1 hgrow (by omega) (growslice_fits hgrow hb)
          refine ⟨_, _, hrun, ?_⟩
          obtain ⟨N', bs', FP', hR⟩ := hgr
          exact ⟨N', bs', FP', hR⟩
end
end Go.Proofs.YtpeafglbhjjbhaaDoor

