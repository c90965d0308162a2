/- Rows whose elements' parts are read, and rows that are read from here on. -/
import Derived.Test.YtpeafglbhjjbhaaDoorFJ
namespace Go.Proofs.YtpeafglbhjjbhaaDoor
open Go Go.RowKit

/-- Some of a root's blocks are written no more. -/
theorem RelI.toN {X : Cx} {U : Nat → Prop} {S S' : St} {a : Act} {w : World} {N : Nat → Prop} {bs : Bs} {FP : Nat → Nat → Prop} (h : RelI X U S a w N bs FP) (k : Nat) (D : Nat → Prop) (hD : ∀ q, D q → FP k q) (hfs : ∀ f, S'.tm FS = .fo f → S.tm FS = .fo f)
    (ts : ∀ t, HV w (fun q => N q ∨ D q) bs NoB (S'.tm t) (a.tmps.getD t undef)) (rs : ∀ r R, S'.rt r = some R → ∃ x, bs r = some x ∧ HV w (fun q => N q ∨ D q) bs (upd FP k (fun q => FP k q ∧ ¬ D q) r) (.sl R.e R.sz R.els) (hdr x R.els.length)) :
    RelI X U S' a w (fun q => N q ∨ D q) bs (upd FP k (fun q => FP k q ∧ ¬ D q)) := by
  have hsub : ∀ r q, upd FP k (fun q => FP k q ∧ ¬ D q) r q → FP r q ∧ ¬ D q := fun r q hq => by
    by_cases e1 : r = k
    · subst e1; rw [upd_same] at hq; exact hq
    · rw [upd_ne _ _ e1] at hq
      exact ⟨hq, fun hd => e1 (h.f2 r k q hq (hD q hd))⟩
  exact {
    blk := h.blk
    size := h.size
    os := h.os
    tape := h.tape
    output := h.output
    n1 := fun q hq => hq.elim (h.n1 q) fun hq => (h.f1 k q (hD q hq)).1
    n0 := fun q hq => .inl (h.n0 q hq)
    n2 := fun q hq => hq.elim (h.n2 q) fun hq => .inr (h.f1 k q (hD q hq)).2.2
    f1 := fun r q hq => by
      obtain ⟨g1, g2⟩ := hsub r q hq
      obtain ⟨e1, e2, e3⟩ := h.f1 r q g1
      exact ⟨e1, fun hn => hn.elim e2 g2, e3⟩
    f2 := fun r r2 q hq hq2 => h.f2 r r2 q (hsub r q hq).1 (hsub r2 q hq2).1
    u := h.u
    sz := h.sz
    pk := h.pk
    nl := h.nl
    df := h.df.mono fun q ⟨g1, g2, g3, g4⟩ _ => ⟨⟨g1, fun hn => hn.elim g2 (fun hd => g4 k (hD q hd)), g3, fun r hq => g4 r (hsub r q hq).1⟩, rfl⟩
    fo := fun f hf => by
      obtain ⟨g0, F, g1, g2, g3⟩ := h.fo f (hfs f hf)
      exact ⟨g0, F, f.st w w F N _ g1 (fun _ h => .inl h) (fun _ _ => rfl) (Nat.le_refl _) rfl rfl rfl (fun _ _ => rfl) (fun _ _ => rfl), ⟨g2.1, fun r q hq => g2.2 r q (hsub r q hq).1⟩, fun q hq => ⟨(g3 q hq).1, fun hn => hn.elim (g3 q hq).2.1 (fun hd => (g3 q hq).2.2.2 k (hD q hd)), (g3 q hq).2.2.1, fun r hr => (g3 q hq).2.2.2 r (hsub r q hr).1⟩⟩
    gl := fun p hp => (h.gl p hp).mono (fun _ _ => rfl) fun _ h => .inl h
    ts := ts
    rs := rs }
/-- Cells, some of which are read from here on. -/
inductive RoL : List CT → List CT → Prop
  | nil : RoL [] []
  | same {c : CT} {l l' : List CT} (h : c.cp = true) (h' : RoL l l') : RoL (c :: l) (c :: l')
  | ro {c : CT} {l l' : List CT} (h : Cl true c) (h' : RoL l l') : RoL (c :: l) (.ro c :: l')
theorem RoL.at_ {l l' : List CT} (h : RoL l l') : l.length = l'.length ∧ ∀ (j : Nat) (c' : CT), l'[j]? = some c' → ∃ c : CT, l[j]? = some c ∧ ((c' = c ∧ c.cp = true) ∨ (Cl true c ∧ c' = .ro c)) := by
  induction h with
  | nil => exact ⟨rfl, fun j c hj => by simp at hj⟩
  | same h _ ih =>
    refine ⟨by simp [ih.1], fun j c hj => ?_⟩
    cases j with
    | zero => simp at hj; subst hj; exact ⟨_, rfl, .inl ⟨rfl, h⟩⟩
    | succ j => simpa using ih.2 j c (by simpa using hj)
  | ro h _ ih =>
    refine ⟨by simp [ih.1], fun j c hj => ?_⟩
    cases j with
    | zero => simp at hj; subst hj; exact ⟨_, rfl, .inr ⟨h, rfl⟩⟩
    | succ j => simpa using ih.2 j c (by simpa using hj)
def RoE (els els' : List (List CT)) : Prop := els.length = els'.length ∧ ∀ (i : Nat) (es' : List CT), els'[i]? = some es' → ∃ es : List CT, els[i]? = some es ∧ RoL es es'
theorem RoE.map {α : Type} {φ ψ : α → List CT} (h : ∀ x, RoL (φ x) (ψ x)) (l : List α) : RoE (l.map φ) (l.map ψ) := ⟨by simp, fun i es' hi => by
  rw [List.getElem?_map] at hi ⊢
  cases hl : l[i]? with
  | none => rw [hl] at hi; cases hi
  | some x => rw [hl] at hi; cases hi; exact ⟨_, rfl, h x⟩⟩
theorem RoE.set {els els' : List (List CT)} (h : RoE els els') (j : Nat) {c c' : List CT} (hc : RoL c c') : RoE (els.set j c) (els'.set j c') := ⟨by simp [h.1], fun i es' hi => by
  rcases set_get hi with ⟨rfl, rfl⟩ | ⟨hne, hi⟩
  · have : i < els.length := by rw [h.1]; have := (List.getElem?_eq_some_iff.1 hi).1; simpa using this
    exact ⟨c, List.getElem?_set_self this, hc⟩
  · obtain ⟨es, h1, h2⟩ := h.2 i es' hi
    exact ⟨es, by rw [List.getElem?_set_ne (Ne.symm hne)]; exact h1, h2⟩⟩
section
variable {X : Cx} {t : List (Nat × CT)} {r : List (Nat × Option Root)} {nx : Nat}
/-- A root stays one's own, its elements' parts are read from here on. -/
theorem le_share (k : Nat) {e sz : Nat} {els els' : List (List CT)} (hr : St.rt ⟨t, r, nx⟩ k = some ⟨e, sz, els⟩) (hs : RoE els els') : St.le X ⟨t, r, nx⟩ ⟨t, (k, some ⟨e, sz, els'⟩) :: r, nx⟩ := fun a w hR => by
  obtain ⟨N, bs, FP, h⟩ := hR
  let B : Nat → Prop := fun q => ∃ off cap, bs k = some (some (q, off, cap))
  let D : Nat → Prop := fun q => FP k q ∧ ¬ B q
  have hup : ∀ {P : Nat → Prop} {c : CT} {u : Value}, HV w N bs P c u → HV w (fun q => N q ∨ D q) bs P c u := fun hv => hv.frame (fun _ _ => rfl) (fun _ _ => rfl) (fun _ h => .inl h) (fun _ _ h => h)
  refine ⟨_, bs, _, h.toN k D (fun q hq => hq.1) (fun f hf => hf) (fun t' => hup (h.ts t')) fun r' R hR => ?_⟩
  have hR' : (if k = r' then some (⟨e, sz, els'⟩ : Root) else lk none r r') = some R := hR
  by_cases e1 : k = r'
  · rw [if_pos e1] at hR'
    cases hR'
    subst e1
    rw [upd_same]
    obtain ⟨x, hx, hv⟩ := h.rs k _ hr
    refine ⟨x, hx, ?_⟩
    cases x with
    | none =>
      simp only [hdr] at hv
      cases hv
      have : els' = [] := List.eq_nil_of_length_eq_zero hs.1.symm
      subst this
      exact .nil
    | some x =>
      obtain ⟨g, off, cap⟩ := x
      obtain ⟨cur, us, Q, hg, hh, hsz, hcl, hm', hz, hQ, hd, hw, h1, hvv⟩ := h.root hx hr
      have hgB : B g := ⟨off, cap, hx⟩
      have hBg : ∀ q, B q → q = g := fun q ⟨o', c', hq⟩ => by
        have := hx.symm.trans hq
        cases this
        rfl
      refine .own g off _ cap cur us (fun _ _ _ => False) rfl ⟨hg, fun hd => hd.2 hgB⟩ hh hsz (by rw [← hs.1]; exact hcl) hm' (fun es' he => ?_) (fun _ _ _ h => h.elim) (fun _ _ _ _ _ h => h.elim) (fun i o es' c' hi ho => ?_) (fun i o es' c' hi ho => ?_) (fun i o es' c' hi ho => ?_)
      · obtain ⟨i, hi, rfl⟩ := List.getElem_of_mem he
        obtain ⟨es, g1, g2⟩ := hs.2 i _ (List.getElem?_eq_getElem hi)
        rw [← g2.at_.1]
        exact hz es (List.mem_of_getElem? g1)
      · obtain ⟨es, g1, g2⟩ := hs.2 i _ hi
        obtain ⟨c, g3, _⟩ := g2.at_.2 o c' ho
        exact hw i o es c g1 g3
      · obtain ⟨es, g1, g2⟩ := hs.2 i _ hi
        obtain ⟨c, g3, _⟩ := g2.at_.2 o c' ho
        exact h1 i o es c g1 g3
      · obtain ⟨es, g1, g2⟩ := hs.2 i _ hi
        obtain ⟨c, g3, g4⟩ := g2.at_.2 o c' ho
        have hvc := hvv i o es c g1 g3
        rcases g4 with ⟨rfl, g4⟩ | ⟨g4, rfl⟩
        · exact (hup (hvc.cp g4)).mono fun _ (h : False) => h.elim
        · refine .ro (hvc.rd g4 (fun _ h => .inl h) fun q hq => .inr ⟨(hQ i o q hq).1, fun hb => (hQ i o q hq).2 (hBg q hb)⟩)
  · rw [if_neg e1] at hR'
    obtain ⟨x, hx, hv⟩ := h.rs r' R hR'
    refine ⟨x, hx, ?_⟩
    rw [upd_ne FP _ (Ne.symm e1)]
    exact hup hv
/-- Cells, of which some show a root that is read from here on. -/
inductive FzL (k n sz : Nat) (c0 : CT) : List CT → List CT → Prop
  | nil : FzL k n sz c0 [] []
  | same {c : CT} {l l' : List CT} (h' : FzL k n sz c0 l l') : FzL k n sz c0 (c :: l) (c :: l')
  | ro {m : Nat} {l l' : List CT} (h : m = n) (h' : FzL k n sz c0 l l') : FzL k n sz c0 (.rf k 0 m sz :: l) (.ro c0 :: l')
theorem FzL.at_ {k n sz : Nat} {c0 : CT} {l l' : List CT} (h : FzL k n sz c0 l l') : l.length = l'.length ∧ ∀ (j : Nat) (c' : CT), l'[j]? = some c' → ∃ c : CT, l[j]? = some c ∧ (c' = c ∨ (c = .rf k 0 n sz ∧ c' = .ro c0)) := by
  induction h with
  | nil => exact ⟨rfl, fun j c hj => by simp at hj⟩
  | same _ ih =>
    refine ⟨by simp [ih.1], fun j c hj => ?_⟩
    cases j with
    | zero => simp at hj; subst hj; exact ⟨_, rfl, .inl rfl⟩
    | succ j => simpa using ih.2 j c (by simpa using hj)
  | ro h _ ih =>
    subst h
    refine ⟨by simp [ih.1], fun j c hj => ?_⟩
    cases j with
    | zero => simp at hj; subst hj; exact ⟨_, rfl, .inr ⟨rfl, rfl⟩⟩
    | succ j => simpa using ih.2 j c (by simpa using hj)
inductive FzT (k n sz : Nat) (c0 : CT) (S : St) : List (Nat × CT) → Prop
  | nil : FzT k n sz c0 S []
  | rf {s m : Nat} {l : List (Nat × CT)} (h : S.tm s = .rf k 0 m sz) (hm : m = n) (h' : FzT k n sz c0 S l) : FzT k n sz c0 S ((s, .ro c0) :: l)
  | ag {s : Nat} {cs cs' : List CT} {l : List (Nat × CT)} (h : S.tm s = .ag cs) (hc : FzL k n sz c0 cs cs') (h' : FzT k n sz c0 S l) : FzT k n sz c0 S ((s, .ag cs') :: l)
inductive FzR (k n sz : Nat) (c0 : CT) (S : St) : List (Nat × Option Root) → Prop
  | nil : FzR k n sz c0 S []
  | at_ {k2 i e2 sz2 : Nat} {els els' : List (List CT)} {es es' : List CT} {l : List (Nat × Option Root)} (h : S.rt k2 = some ⟨e2, sz2, els⟩) (hk : k2 ≠ k) (hi : els[i]? = some es) (hc : FzL k n sz c0 es es') (he : els.set i es' = els') (h' : FzR k n sz c0 S l) : FzR k n sz c0 S ((k2, some ⟨e2, sz2, els'⟩) :: l)
/-- A root that is written no more: it is read from here on, wherever it is shown. -/
theorem le_freezeR (k : Nat) {e sz : Nat} {els : List (List CT)} {c0 : CT} (hw : Wk (.sl e sz els) c0) (ts : List (Nat × CT)) (rs : List (Nat × Option Root)) (hr : St.rt ⟨t, r, nx⟩ k = some ⟨e, sz, els⟩) (hc : ∀ es ∈ els, ∀ c ∈ es, Cl true c) (hts : FzT k els.length sz c0 ⟨t, r, nx⟩ ts) (hrs : FzR k els.length sz c0 ⟨t, r, nx⟩ rs) :
    St.le X ⟨t, r, nx⟩ ⟨ts ++ t, rs ++ (k, none) :: r, nx⟩ := fun a w hR => by
  obtain ⟨N, bs, FP, h⟩ := hR
  have hup : ∀ {P : Nat → Prop} {c : CT} {u : Value}, HV w N bs P c u → HV w (fun q => N q ∨ FP k q) bs P c u := fun hv => hv.frame (fun _ _ => rfl) (fun _ _ => rfl) (fun _ h => .inl h) (fun _ _ h => h)
  obtain ⟨x, hx, hv0⟩ := h.rs k _ hr
  have hrd : RD w (fun q => N q ∨ FP k q) c0 (hdr x els.length) := hw w _ _ (hv0.rd (.sl _ _ hc) (fun _ h => .inl h) fun _ h => .inr h)
  have hconv : ∀ (P : Nat → Prop) (u : Value), HV w N bs P (.rf k 0 els.length sz) u → HV w (fun q => N q ∨ FP k q) bs P (.ro c0) u := fun P u hu => by
    have hrd' := hrd
    generalize els.length = m at hu hrd'
    cases hu with
    | rf A g off cap hb hn hm hA =>
      have := hx.symm.trans hb
      cases this
      have hA' := hA (.inr rfl)
      subst hA'
      have := hrd'
      simp only [hdr] at this
      refine .ro ?_
      simpa using this
    | rfNil hb =>
      have := hx.symm.trans hb
      cases this
      exact .ro hrd'
  have hcell : ∀ {l l' : List CT}, FzL k els.length sz c0 l l' → ∀ (j : Nat) (c' : CT), l'[j]? = some c' → ∃ c : CT, l[j]? = some c ∧ ∀ (P : Nat → Prop) (u : Value), HV w N bs P c u → HV w (fun q => N q ∨ FP k q) bs P c' u := fun hl j c' hj => by
    obtain ⟨c, g1, g2⟩ := hl.at_.2 j c' hj
    refine ⟨c, g1, fun P u hu => ?_⟩
    rcases g2 with rfl | ⟨rfl, rfl⟩
    · exact hup hu
    · exact hconv P u hu
  refine ⟨_, bs, _, h.toN k (FP k) (fun q hq => hq) (fun f hf => ?_) (fun t' => ?_) fun r' R hR => ?_⟩
  · have key : ∀ ts' : List (Nat × CT), FzT k els.length sz c0 ⟨t, r, nx⟩ ts' → lk .un (ts' ++ t) FS = .fo f → St.tm ⟨t, r, nx⟩ FS = .fo f := by
      intro ts' ht
      induction ht with
      | nil => intro h; exact h
      | @rf s m l _ _ _ ih =>
        intro h
        by_cases e1 : s = FS
        · subst e1; rw [List.cons_append, lk_same] at h; cases h
        · rw [List.cons_append, lk_ne _ _ _ e1] at h; exact ih h
      | @ag s cs cs' l _ _ _ ih =>
        intro h
        by_cases e1 : s = FS
        · subst e1; rw [List.cons_append, lk_same] at h; cases h
        · rw [List.cons_append, lk_ne _ _ _ e1] at h; exact ih h
    exact key ts hts hf
  · show HV w _ bs NoB (lk .un (ts ++ t) t') _
    have key : ∀ ts' : List (Nat × CT), FzT k els.length sz c0 ⟨t, r, nx⟩ ts' → HV w (fun q => N q ∨ FP k q) bs NoB (lk .un (ts' ++ t) t') (a.tmps.getD t' undef) := by
      intro ts' ht
      induction ht with
      | nil => exact hup (h.ts t')
      | @rf s m l h0 hm _ ih =>
        by_cases e1 : s = t'
        · subst e1
          rw [List.cons_append, lk_same]
          have hu := h.ts s
          rw [h0, hm] at hu
          exact hconv _ _ hu
        · rw [List.cons_append, lk_ne _ _ _ e1]; exact ih
      | @ag s cs cs' l h0 hcs _ ih =>
        by_cases e1 : s = t'
        · subst e1
          rw [List.cons_append, lk_same]
          have hu := h.ts s
          rw [h0] at hu
          generalize a.tmps.getD s undef = u at hu
          cases hu with
          | ag us hl hr =>
            refine .ag us (by rw [hl, hcs.at_.1]) fun j c' hj => ?_
            obtain ⟨c, g1, g2⟩ := hcell hcs j c' hj
            exact g2 _ _ (hr j c g1)
        · rw [List.cons_append, lk_ne _ _ _ e1]; exact ih
    exact key ts hts
  · have key : ∀ rs' : List (Nat × Option Root), FzR k els.length sz c0 ⟨t, r, nx⟩ rs' → lk none (rs' ++ (k, none) :: r) r' = some R → ∃ x, bs r' = some x ∧ HV w (fun q => N q ∨ FP k q) bs (upd FP k (fun q => FP k q ∧ ¬ FP k q) r') (.sl R.e R.sz R.els) (hdr x R.els.length) := by
      intro rs' ht
      induction ht with
      | nil =>
        intro hR'
        have hR' : (if k = r' then none else lk none r r') = some R := hR'
        by_cases e1 : k = r'
        · rw [if_pos e1] at hR'; cases hR'
        · rw [if_neg e1] at hR'
          obtain ⟨x, hx, hv⟩ := h.rs r' R hR'
          refine ⟨x, hx, ?_⟩
          rw [upd_ne FP _ (Ne.symm e1)]
          exact hup hv
      | @at_ k2 i e2 sz2 els2 els2' es es' l h0 hk hi hcs he _ ih =>
        intro hR'
        by_cases e1 : k2 = r'
        · subst e1
          rw [List.cons_append, lk_same] at hR'
          cases hR'
          subst he
          obtain ⟨y, hy, hv⟩ := h.rs k2 _ h0
          refine ⟨y, hy, ?_⟩
          rw [upd_ne FP _ hk]
          cases y with
          | none =>
            simp only [hdr] at hv
            cases hv
            simp at hi
          | some y =>
            obtain ⟨g, off, cap⟩ := y
            obtain ⟨cur, us, Q, hg, hh, hsz, hcl, hm', hz, hQ, hd, hw, h1, hvv⟩ := h.root hy h0
            have hex : ∀ o c', es'[o]? = some c' → ∃ c, es[o]? = some c := fun o c' ho => ⟨_, List.getElem?_eq_getElem (by have := (List.getElem?_eq_some_iff.1 ho).1; have := hcs.at_.1; omega)⟩
            refine .own g off _ cap cur us Q rfl hg hh hsz (by simpa using hcl) hm' (fun es2 he => ?_) hQ hd (fun j o es2 c' hj ho => ?_) (fun j o es2 c' hj ho => ?_) (fun j o es2 c' hj ho => ?_)
            · obtain ⟨j, hj, rfl⟩ := List.getElem_of_mem he
              rcases set_get (List.getElem?_eq_getElem hj) with ⟨_, h2⟩ | ⟨_, h2⟩
              · rw [h2, ← hcs.at_.1]; exact hz es (List.mem_of_getElem? hi)
              · exact hz _ (List.mem_of_getElem? h2)
            · rcases set_get hj with ⟨rfl, rfl⟩ | ⟨_, h2⟩
              · obtain ⟨c, g1⟩ := hex o c' ho; exact hw j o es c hi g1
              · exact hw j o es2 c' h2 ho
            · rcases set_get hj with ⟨rfl, rfl⟩ | ⟨_, h2⟩
              · obtain ⟨c, g1⟩ := hex o c' ho; exact h1 j o es c hi g1
              · exact h1 j o es2 c' h2 ho
            · rcases set_get hj with ⟨rfl, rfl⟩ | ⟨_, h2⟩
              · obtain ⟨c, g1, g2⟩ := hcell hcs o c' ho
                exact g2 _ _ (hvv j o es c hi g1)
              · exact hup (hvv j o es2 c' h2 ho)
        · rw [List.cons_append, lk_ne _ _ _ e1] at hR'; exact ih hR'
    exact key rs hrs hR
end
theorem set_oth {α β : Type} {f : α → β} {l : List α} {i j : Nat} {x : α} {c : β} (h : l[i]? = some x) (hne : ¬ j = i) : ((l.map f).set j c)[i]? = some (f x) := by
  rw [List.getElem?_set_ne hne, List.getElem?_map, h]
  rfl
theorem roE_map {α : Type} {f g : α → List CT} (h : ∀ x, (f x).map roC = g x) (l : List α) : (l.map f).map (List.map roC) = l.map g := by rw [List.map_map]; exact List.map_congr_left fun x _ => h x
end Go.Proofs.YtpeafglbhjjbhaaDoor

