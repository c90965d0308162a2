/- Deep words, fifteenth part: states that say less, other names of roots. -/
import Derived.Test.YtpeafglbhjjbhaaDoorDN
namespace Go.Proofs.YtpeafglbhjjbhaaDoor
open Go Go.RowKit

theorem set_get {α : Type} {l : List α} {i j : Nat} {x y : α} (h : (l.set i x)[j]? = some y) : (j = i ∧ y = x) ∨ (j ≠ i ∧ l[j]? = some y) := by
  by_cases e : i = j
  · subst e
    rw [List.getElem?_set_self' ] at h
    cases hl : l[i]? with
    | none => simp [hl] at h
    | some z => simp [hl] at h; exact .inl ⟨rfl, h.symm⟩
  · rw [List.getElem?_set_ne e] at h
    exact .inr ⟨Ne.symm e, h⟩
/-- New names of roots: of which old one, or of nil. -/
abbrev Nm := List (Nat × Option Nat)
/-- What is known becomes less, under new names. -/
inductive Rn (κ : Nm) : CT → CT → Prop
  | v {x y : Value} (h : x = y) : Rn κ (.v x) (.v y)
  | ro {c c' : CT} (h : c = c') : Rn κ (.ro c) (.ro c')
  | un (c : CT) : Rn κ c .un
  | fo (f : Fo) : Rn κ (.fo f) (.fo f)
  | rf {r r' lo n n' sz : Nat} (h : lk none κ r' = some r) (hn : n = n') : Rn κ (.rf r lo n sz) (.rf r' lo n' sz)
  | nil {r' sz : Nat} (h : (r', none) ∈ κ ∧ lk (some 0) κ r' = none) : Rn κ (.v (.slice none 0 0)) (.rf r' 0 0 sz)
  | ad {r r' sz i i' o : Nat} (h : lk none κ r' = some r) (hi : i = i') : Rn κ (.ad r sz i o) (.ad r' sz i' o)
  | nilsl (e sz : Nat) : Rn κ (.v (.slice none 0 0)) (.sl e sz [])
  | nilro (e sz : Nat) : Rn κ (.v (.slice none 0 0)) (.ro (.sl e sz []))
  | sl {e sz : Nat} {els els' : List (List CT)} (h : els = els') (hc : ∀ es ∈ els', ∀ c ∈ es, Cl true c) : Rn κ (.sl e sz els) (.sl e sz els')
  | fn {f : Fn} {l l' : List CT} (h : l = l') (hc : ∀ c ∈ l', Cl true c) : Rn κ (.fn f [] l) (.fn f [] l')
inductive RnL (κ : Nm) : List CT → List CT → Prop
  | nil : RnL κ [] []
  | cons {c c' : CT} {l l' : List CT} (h : Rn κ c c') (h' : RnL κ l l') : RnL κ (c :: l) (c' :: l')
/-- Slots. -/
inductive TL (κ : Nm) (S : St) : List (Nat × CT) → Prop
  | nil : TL κ S []
  | cons {t : Nat} {c c' : CT} {l : List (Nat × CT)} (h : Is (S.tm t) c) (hr : Rn κ c c') (h' : TL κ S l) : TL κ S ((t, c') :: l)
  | ag {t : Nat} {cs cs' : List CT} {l : List (Nat × CT)} (h : S.tm t = .ag cs) (hr : RnL κ cs cs') (h' : TL κ S l) : TL κ S ((t, .ag cs') :: l)
/-- Roots. -/
inductive RL (κ : Nm) (S : St) : List (Nat × Option Root) → Prop
  | nil : RL κ S []
  | row {k k' e sz : Nat} {els els' : List (List CT)} {l : List (Nat × Option Root)} (hk : lk none κ k' = some k) (h : S.rt k = some ⟨e, sz, els⟩) (he : els = els') (hc : ∀ es ∈ els', ∀ c ∈ es, Cl true c) (h' : RL κ S l) : RL κ S ((k', some ⟨e, sz, els'⟩) :: l)
  | box {k k' e sz : Nat} {es es' : List CT} {l : List (Nat × Option Root)} (hk : lk none κ k' = some k) (h : S.rt k = some ⟨e, sz, [es]⟩) (hc : RnL κ es es') (h' : RL κ S l) : RL κ S ((k', some ⟨e, sz, [es']⟩) :: l)
  | opn {k k' e sz j : Nat} {els : List (List CT)} {es es' : List CT} {l : List (Nat × Option Root)} (hk : lk none κ k' = some k) (h : S.rt k = some ⟨e, sz, els.set j es⟩) (hcl : ∀ es ∈ els, ∀ c ∈ es, Cl true c) (hc : RnL κ es es') (h' : RL κ S l) : RL κ S ((k', some ⟨e, sz, els.set j es'⟩) :: l)
  | new {k' e sz : Nat} {l : List (Nat × Option Root)} (hk : (k', none) ∈ κ ∧ lk (some 0) κ k' = none) (h' : RL κ S l) : RL κ S ((k', some ⟨e, sz, []⟩) :: l)
  | gone {k' : Nat} {l : List (Nat × Option Root)} (h' : RL κ S l) : RL κ S ((k', none) :: l)
def nmBs (κ : Nm) (bs : Bs) : Bs := fun r => match κ.find? (·.1 == r) with
  | some (_, some k) => bs k
  | some (_, none) => some none
  | none => none
def nmFP (κ : Nm) (FP : Nat → Nat → Prop) : Nat → Nat → Prop := fun r => match κ.find? (·.1 == r) with
  | some (_, some k) => FP k
  | _ => NoB
theorem find_lk {κ : Nm} {r : Nat} : κ.find? (·.1 == r) = none ∧ (∀ d, lk d κ r = d) ∨ ∃ x, κ.find? (·.1 == r) = some (r, x) ∧ ∀ d, lk d κ r = x := by
  induction κ with
  | nil => exact .inl ⟨rfl, fun _ => rfl⟩
  | cons p κ ih =>
    obtain ⟨k, x⟩ := p
    by_cases e : k = r
    · subst e
      exact .inr ⟨x, by simp, fun d => by simp [lk]⟩
    · have : ((k, x) :: κ).find? (·.1 == r) = κ.find? (·.1 == r) := by simp [e]
      rw [this]
      rcases ih with ⟨h1, h2⟩ | ⟨y, h1, h2⟩
      · exact .inl ⟨h1, fun d => by simp [lk, e, h2]⟩
      · exact .inr ⟨y, h1, fun d => by simp [lk, e, h2]⟩
theorem nmBs_some {κ : Nm} {bs : Bs} {r k : Nat} (h : lk none κ r = some k) : nmBs κ bs r = bs k := by
  unfold nmBs
  rcases find_lk (κ := κ) (r := r) with ⟨h1, h2⟩ | ⟨x, h1, h2⟩
  · rw [h2] at h; cases h
  · rw [h2] at h; rw [h1, h]
theorem nmFP_some {κ : Nm} {FP : Nat → Nat → Prop} {r k : Nat} (h : lk none κ r = some k) : nmFP κ FP r = FP k := by
  unfold nmFP
  rcases find_lk (κ := κ) (r := r) with ⟨h1, h2⟩ | ⟨x, h1, h2⟩
  · rw [h2] at h; cases h
  · rw [h2] at h; rw [h1, h]
theorem nmBs_nil {κ : Nm} {bs : Bs} {r : Nat} (h : (r, none) ∈ κ ∧ lk (some 0) κ r = none) : nmBs κ bs r = some none := by
  unfold nmBs
  rcases find_lk (κ := κ) (r := r) with ⟨h1, h2⟩ | ⟨x, h1, h2⟩
  · rw [h2] at h; cases h.2
  · have := h.2; rw [h2] at this; rw [h1, this]
section
variable {w : World} {N : Nat → Prop} {bs : Bs} {P : Nat → Prop} {κ : Nm}
theorem Rn.hv {c c' : CT} {u : Value} (h : Rn κ c c') (hu : HV w N bs P c u) : HV w N (nmBs κ bs) P c' u := by
  cases h with
  | v h => rw [hu.val, h]; exact .v _
  | ro h => subst h; exact .ro hu.out_ro
  | un => exact .un _
  | fo f => exact .fo _ _
  | rf h hn =>
    subst hn
    cases hu with
    | rf A g off cap hb hn hm hA => exact .rf A g off cap ((nmBs_some h).trans hb) hn hm hA
    | rfNil hb => exact .rfNil ((nmBs_some h).trans hb)
  | nil h => rw [hu.val]; exact .rfNil (nmBs_nil h)
  | ad h hi =>
    subst hi
    cases hu with
    | ad g off cap hb => exact .ad g off cap ((nmBs_some h).trans hb)
  | nilsl e sz => rw [hu.val]; exact .nil
  | nilro e sz => rw [hu.val]; exact .ro (.sl none 0 0 0 0 (fun _ _ => undef) rfl (fun h => absurd rfl h) (Nat.le_refl _) (by omega) (by simp) (fun i o es c hi => by simp at hi) (fun i o es c hi => by simp at hi) (fun i o es c hi => by simp at hi))
  | sl h hc => subst h; exact hu.shut (.sl _ _ hc)
  | fn h hc => subst h; exact hu.shut (.fn _ hc)
theorem RnL.hv {l l' : List CT} (h : RnL κ l l') : l'.length = l.length ∧ ∀ (us : Nat → Value) (Q : Nat → Nat → Prop), (∀ j c, l[j]? = some c → HV w N bs (Q j) c (us j)) → ∀ j c, l'[j]? = some c → HV w N (nmBs κ bs) (Q j) c (us j) := by
  induction h with
  | nil => exact ⟨rfl, fun us Q _ j c hj => by simp at hj⟩
  | cons h _ ih =>
    refine ⟨by simp [ih.1], fun us Q hu j c hj => ?_⟩
    cases j with
    | zero => cases hj; exact h.hv (hu 0 _ rfl)
    | succ j => exact ih.2 (fun j => us (j + 1)) (fun j => Q (j + 1)) (fun j c hj => hu (j + 1) c (by simpa using hj)) j c (by simpa using hj)
end
section
variable {X : Cx} {U : Nat → Prop} {S : St} {a : Act} {w : World} {N : Nat → Prop} {bs : Bs} {FP : Nat → Nat → Prop} {κ : Nm}
theorem TL.hv (h : RelI X U S a w N bs FP) {l : List (Nat × CT)} (ht : TL κ S l) (t : Nat) : HV w N (nmBs κ bs) NoB (lk .un l t) (a.tmps.getD t undef) := by
  induction ht with
  | nil => exact .un _
  | @cons t0 c c' l h0 hr _ ih =>
    simp only [lk]
    split
    · rename_i e
      subst e
      have := h.ts t0
      rw [h0.eq] at this
      exact hr.hv this
    · exact ih
  | @ag t0 cs cs' l h0 hr _ ih =>
    simp only [lk]
    split
    · rename_i e
      subst e
      have := h.ts t0
      rw [h0] at this
      generalize a.tmps.getD t0 undef = u at this ⊢
      cases this with
      | ag us hl hu => exact .ag us (by rw [hl, (hr.hv (w := w) (N := N) (bs := bs)).1]) (hr.hv.2 (fun j => us.getD j undef) (fun _ => NoB) hu)
    · exact ih
theorem RL.hv (h : RelI X U S a w N bs FP) {l : List (Nat × Option Root)} (hl : RL κ S l) (r : Nat) (R : Root) (hr : lk none l r = some R) : ∃ x, nmBs κ bs r = some x ∧ HV w N (nmBs κ bs) (nmFP κ FP r) (.sl R.e R.sz R.els) (hdr x R.els.length) := by
  induction hl with
  | nil => cases hr
  | @row k k' e sz els els' l hk h0 he hc _ ih =>
    simp only [lk] at hr
    split at hr
    · rename_i e1
      subst e1
      cases hr
      subst he
      obtain ⟨x, hx, hv⟩ := h.rs k _ h0
      exact ⟨x, (nmBs_some hk).trans hx, by rw [nmFP_some hk]; exact hv.shut (.sl _ _ hc)⟩
    · exact ih hr
  | @box k k' e sz es es' l hk h0 hc _ ih =>
    simp only [lk] at hr
    split at hr
    · rename_i e1
      subst e1
      cases hr
      obtain ⟨x, hx, hv⟩ := h.rs k _ h0
      refine ⟨x, (nmBs_some hk).trans hx, ?_⟩
      rw [nmFP_some hk]
      obtain ⟨g1, g2⟩ := hc.hv (w := w) (N := N) (bs := bs)
      cases x with
      | none => cases hv
      | some x =>
        obtain ⟨g, off, cap⟩ := x
        obtain ⟨cur, us, Q, hg, hh, hs, hcl, hm', hz, hQ, hd, hw, h1, hvv⟩ := h.root hx h0
        have hlen : es'.length = sz := by rw [g1]; exact hz es (by simp)
        have hex : ∀ o c', es'[o]? = some c' → ∃ c, es[o]? = some c := fun o c' ho => by
          have := (List.getElem?_eq_some_iff.1 ho).1
          exact ⟨_, List.getElem?_eq_getElem (by omega)⟩
        refine .own g off _ cap cur us Q rfl hg hh hs (by simpa using hcl) hm' (by simpa using hlen) hQ hd (fun i o es2 c hi ho => ?_) (fun i o es2 c hi ho => ?_) (fun i o es2 c hi ho => ?_)
        all_goals
          cases i with
          | succ i => simp at hi
          | zero =>
            simp at hi
            subst hi
            obtain ⟨c0, hc0⟩ := hex o c ho
            first
              | exact hw 0 o es c0 rfl hc0
              | exact h1 0 o es c0 rfl hc0
              | exact g2 (fun j => us 0 j) (fun j => Q 0 j) (fun j c hj => hvv 0 j es c rfl hj) o c ho
    · exact ih hr
  | @opn k k' e sz j els es es' l hk h0 hcl hc _ ih =>
    simp only [lk] at hr
    split at hr
    · rename_i e1
      subst e1
      cases hr
      obtain ⟨x, hx, hv⟩ := h.rs k _ h0
      refine ⟨x, (nmBs_some hk).trans hx, ?_⟩
      rw [nmFP_some hk]
      obtain ⟨g1, g2⟩ := hc.hv (w := w) (N := N) (bs := bs)
      by_cases hj : j < els.length
      · cases x with
        | none =>
          simp only [hdr] at hv
          generalize hE : els.set j es = E at hv
          cases hv
          have h3 : (els.set j es).length = 0 := by rw [hE]; rfl
          rw [List.length_set] at h3
          omega
        | some x =>
          obtain ⟨g, off, cap⟩ := x
          obtain ⟨cur, us, Q, hg, hh, hs, hcl', hm', hz, hQ, hd, hw, h1, hvv⟩ := h.root hx h0
          have hself : (els.set j es)[j]? = some es := by rw [List.getElem?_set_self hj]
          have hlen : es'.length = sz := by rw [g1]; exact hz es (List.mem_of_getElem? hself)
          have hoth : ∀ (i : Nat) (es2 : List CT), i ≠ j → els[i]? = some es2 → (els.set j es)[i]? = some es2 := fun i es2 hne h => by rw [List.getElem?_set_ne (Ne.symm hne)]; exact h
          refine .own g off _ cap cur us Q rfl hg hh hs (by simpa using hcl') hm' (fun es2 he => ?_) hQ hd (fun i o es2 c hi ho => ?_) (fun i o es2 c hi ho => ?_) (fun i o es2 c hi ho => ?_)
          · obtain ⟨i, hi, rfl⟩ := List.getElem_of_mem he
            rcases set_get (List.getElem?_eq_getElem hi) with ⟨_, h2⟩ | ⟨hne, h2⟩
            · rw [h2]; exact hlen
            · exact hz _ (List.mem_of_getElem? (hoth i _ hne h2))
          all_goals
            rcases set_get hi with ⟨rfl, rfl⟩ | ⟨hne, h2⟩
            · have hc0 : ∃ c0, es[o]? = some c0 := ⟨_, List.getElem?_eq_getElem (by have := (List.getElem?_eq_some_iff.1 ho).1; omega)⟩
              obtain ⟨c0, hc0⟩ := hc0
              first
                | exact hw i o es c0 hself hc0
                | exact h1 i o es c0 hself hc0
                | exact g2 (fun q => us i q) (fun q => Q i q) (fun q c hq => hvv i q es c hself hq) o c ho
            · first
                | exact hw i o es2 c (hoth i es2 hne h2) ho
                | exact h1 i o es2 c (hoth i es2 hne h2) ho
                | exact (hvv i o es2 c (hoth i es2 hne h2) ho).shut (hcl es2 (List.mem_of_getElem? h2) c (List.mem_of_getElem? ho))
      · have e1 : els.set j es = els := List.set_eq_of_length_le (by omega)
        have e2 : els.set j es' = els := List.set_eq_of_length_le (by omega)
        simp only [e1, e2] at hv ⊢
        exact hv.shut (.sl _ _ hcl)
    · exact ih hr
  | @new k' e sz l hk _ ih =>
    simp only [lk] at hr
    split at hr
    · rename_i e1
      subst e1
      cases hr
      exact ⟨none, nmBs_nil hk, .nil⟩
    · exact ih hr
  | @gone k' l _ ih =>
    simp only [lk] at hr
    split at hr
    · cases hr
    · exact ih hr
end
def nmB : List (Nat × Option Nat) → Nat → List Nat → Bool
  | [], _, _ => true
  | (r, none) :: κ, m, ks => Nat.blt r m && nmB κ m ks
  | (r, some k) :: κ, m, ks => Nat.blt r m && (!ks.contains k && nmB κ m (k :: ks))
theorem nmB_ok {m : Nat} : ∀ (κ : Nm) (ks : List Nat), nmB κ m ks = true → (∀ p ∈ κ, p.1 < m) ∧ (∀ r k, lk none κ r = some k → k ∉ ks) ∧ (∀ r r' k, lk none κ r = some k → lk none κ r' = some k → r = r')
  | [], ks, _ => ⟨by simp, fun r k h => (by cases h), fun r r' k h => (by cases h)⟩
  | (r0, none) :: κ, ks, h => by
    simp only [nmB, Bool.and_eq_true] at h
    obtain ⟨g1, g2, g3⟩ := nmB_ok κ ks h.2
    have hlk : ∀ r k, lk none ((r0, none) :: κ) r = some k → lk none κ r = some k := fun r k hr => by
      simp only [lk] at hr
      split at hr
      · cases hr
      · exact hr
    refine ⟨fun p hp => ?_, fun r k hr => g2 r k (hlk r k hr), fun r r' k hr hr' => g3 r r' k (hlk r k hr) (hlk r' k hr')⟩
    rcases List.mem_cons.1 hp with rfl | hp
    · simpa [Nat.blt_eq] using h.1
    · exact g1 p hp
  | (r0, some k0) :: κ, ks, h => by
    simp only [nmB, Bool.and_eq_true, Bool.not_eq_true', List.contains_eq_mem, decide_eq_false_iff_not] at h
    obtain ⟨g1, g2, g3⟩ := nmB_ok κ (k0 :: ks) h.2.2
    have hlk : ∀ r k, lk none ((r0, some k0) :: κ) r = some k → (r = r0 ∧ k = k0) ∨ lk none κ r = some k := fun r k hr => by
      simp only [lk] at hr
      split at hr
      · rename_i e; cases hr; exact .inl ⟨e.symm, rfl⟩
      · exact .inr hr
    refine ⟨fun p hp => ?_, fun r k hr => ?_, fun r r' k hr hr' => ?_⟩
    · rcases List.mem_cons.1 hp with rfl | hp
      · simpa [Nat.blt_eq] using h.1
      · exact g1 p hp
    · rcases hlk r k hr with ⟨_, rfl⟩ | hr
      · exact h.2.1
      · exact fun hk => g2 r k hr (by simp [hk])
    · rcases hlk r k hr with ⟨e1, e2⟩ | hr <;> rcases hlk r' k hr' with ⟨e1', e2'⟩ | hr'
      · rw [e1, e1']
      · exact absurd (by simp [e2]) (g2 r' k hr')
      · exact absurd (by simp [e2']) (g2 r k hr)
      · exact g3 r r' k hr hr'
theorem TL.fs {κ : Nm} {S : St} {l : List (Nat × CT)} (h : TL κ S l) (f : Fo) (hf : lk .un l FS = .fo f) : S.tm FS = .fo f := by
  induction h with
  | nil => cases hf
  | @cons t c c' l h hr h' ih =>
    by_cases e : t = FS
    · subst e
      rw [lk_same] at hf
      subst hf
      cases hr
      exact h.eq
    · rw [lk_ne _ _ _ e] at hf; exact ih hf
  | @ag t cs cs' l h hr h' ih =>
    by_cases e : t = FS
    · subst e; rw [lk_same] at hf; cases hf
    · rw [lk_ne _ _ _ e] at hf; exact ih hf
/-- A state that says less, under new names. -/
theorem le_of {X : Cx} {S : St} {t : List (Nat × CT)} {r : List (Nat × Option Root)} {nx : Nat} (κ : Nm) (hκ : nmB κ (nx * 64) [] = true) (ht : TL κ S t) (hr : RL κ S r) (hpk : X.pk.all (fun p => lk none κ p.1 == some p.1) = true := by rfl) : St.le X S ⟨t, r, nx⟩ := by
  rintro a w ⟨N, bs, FP, h⟩
  obtain ⟨k1, _, k3⟩ := nmB_ok κ [] hκ
  refine ⟨N, nmBs κ bs, nmFP κ FP, h.nextK (D := NoB) (Chd.refl _ _) (fun _ h => h.elim) (fun _ h => h) h.n1 ?_ ?_ ?_ h.sz rfl (ht.hv h) (hr.hv h) (fun r q hq => by
    rcases find_lk (κ := κ) (r := r) with ⟨h1, h2⟩ | ⟨x, h1, h2⟩
    · unfold nmFP at hq; rw [h1] at hq; exact hq.elim
    · cases x with
      | none => unfold nmFP at hq; rw [h1] at hq; exact hq.elim
      | some k => rw [nmFP_some (h2 none)] at hq; exact .inl ⟨k, hq⟩) ht.fs (fun p hp => by
    have := List.all_eq_true.1 hpk p hp
    rw [nmBs_some (by simpa using this)]
    exact h.pk p hp)⟩
  · intro q hq
    rcases find_lk (κ := κ) (r := q) with ⟨h1, h2⟩ | ⟨x, h1, h2⟩
    · exact absurd (by unfold nmBs; rw [h1]) hq
    · exact k1 (q, x) (List.mem_of_find?_eq_some h1)
  · intro r q hq
    rcases find_lk (κ := κ) (r := r) with ⟨h1, h2⟩ | ⟨x, h1, h2⟩
    · unfold nmFP at hq; rw [h1] at hq; exact hq.elim
    · cases x with
      | none => unfold nmFP at hq; rw [h1] at hq; exact hq.elim
      | some k => rw [nmFP_some (h2 none)] at hq; exact h.f1 k q hq
  · intro r r' q hq hq'
    have key : ∀ r, nmFP κ FP r q → ∃ k, lk none κ r = some k ∧ FP k q := fun r hq => by
      rcases find_lk (κ := κ) (r := r) with ⟨h1, h2⟩ | ⟨x, h1, h2⟩
      · unfold nmFP at hq; rw [h1] at hq; exact hq.elim
      · cases x with
        | none => unfold nmFP at hq; rw [h1] at hq; exact hq.elim
        | some k => exact ⟨k, h2 none, by rwa [nmFP_some (h2 none)] at hq⟩
    obtain ⟨k, e1, e2⟩ := key r hq
    obtain ⟨k', e1', e2'⟩ := key r' hq'
    have := h.f2 k k' q e2 e2'
    subst this
    exact k3 r r' k e1 e1'
theorem St.le.trans {X : Cx} {A B C : St} (h : St.le X A B) (k : St.le X B C) : St.le X A C := fun a w hR => k a w (h a w hR)
theorem St.le.refl (X : Cx) (A : St) : St.le X A A := fun _ _ h => h
/-- Ways meet. -/
theorem w_seqJ {F : Fence} {n : Nat} {P : Program} {X : Cx} {Q : Exit → St → Prop} {S : St} {x y : Code} (J : St) (h : W F n P X x S (QThen (fun S' => St.le X S' J) Q)) (hy : W F n P X y J Q) : W F n P X (.seq x y) S Q :=
  w_seq (h.mono fun e S' he => by
    cases e with
    | normal => exact hy.le he
    | _ => exact he)
end Go.Proofs.YtpeafglbhjjbhaaDoor

