/- Calls that take over what they are handed, or give it back changed. -/
import Derived.Test.YtpeafglbhjjbhaaDoorFF
import Derived.Test.YtpeafglbhjjbhaaDoorDZ
namespace Go.Proofs.YtpeafglbhjjbhaaDoor
open Go Go.RowKit

/-- A contract of a function that is handed roots: they are its own now, or come back as gb. -/
def SC (P : Program) (G : List (Nat × List CT)) (f : FuncId) (cs : List CT) (rs : List (Nat × Option Root)) (post : CT → List (Nat × Option Root) → Prop) : Prop :=
  ∀ (w : World) (N : Nat → Prop) (bs : Bs) (FP : Nat → Nat → Prop) (vs : Array Value), (∀ k, N k → k < w.heap.size) → (∀ r k, FP r k → k < w.heap.size ∧ ¬ N k) → (∀ r r' k, FP r k → FP r' k → r = r') → (∀ r, bs r ≠ none → r < 64) →
    (∀ r R, lk none rs r = some R → ∃ x, bs r = some x ∧ HV w N bs (FP r) (.sl R.e R.sz R.els) (hdr x R.els.length)) → vs.size = cs.length → (∀ (j : Nat) c, cs[j]? = some c → HV w N bs NoB c (vs.getD j undef)) → (∀ p ∈ G, RD w N (.rp p.2 0) (.pointer (some ⟨p.1, 0, none⟩))) →
    Calls P f vs w fun e w' => ∃ (u : Value) (c : CT) (gb : List (Nat × Option Root)) (N' : Nat → Prop) (FP' : Nat → Nat → Prop) (Pr : Nat → Prop), e = .returned u ∧ post c gb ∧ Chd (fun k => ∃ r, FP r k) w w' ∧ (∀ k, N k → N' k) ∧ (∀ k, N' k → k < w'.heap.size ∧ (N k ∨ w.heap.size ≤ k ∨ ∃ r, FP r k)) ∧
      (∀ k, Pr k → (w.heap.size ≤ k ∨ ∃ r, FP r k) ∧ k < w'.heap.size ∧ ¬ N' k ∧ ∀ r, ¬ FP' r k) ∧ HR w' N' Pr c u ∧
      (∀ r k, FP' r k → (w.heap.size ≤ k ∨ ∃ r, FP r k) ∧ k < w'.heap.size ∧ ¬ N' k) ∧ (∀ r r' k, FP' r k → FP' r' k → r = r') ∧
      (∀ r R, lk none gb r = some R → (∀ es ∈ R.els, ∀ c ∈ es, Cl true c) ∧ ∃ x, bs r = some x ∧ HV w' N' bs (FP' r) (.sl R.e R.sz R.els) (hdr x R.els.length))
def argsS : Nat → List CT → List (Nat × CT)
  | _, [] => []
  | i, c :: l => (i, c) :: argsS (i + 1) l
theorem argsS_at : ∀ (l : List CT) (i t : Nat), lk CT.un (argsS i l) t = if i ≤ t then (l[t - i]?).getD .un else .un
  | [], i, t => by simp [argsS, lk]
  | c :: l, i, t => by
    simp only [argsS, lk]
    by_cases e : i = t
    · subst e; simp
    · rw [if_neg e, argsS_at l (i + 1) t]
      by_cases h : i ≤ t
      · rw [if_pos (by omega), if_pos h, show t - i = (t - (i + 1)) + 1 by omega]; simp
      · rw [if_neg (by omega), if_neg h]
/-- What is told, and what comes back. -/
def RetS (P : Program) (fn : Func) (X : Cx) (S : St) (pins : List Nat) (post : CT → List (Nat × Option Root) → Prop) : Prop :=
  ∃ ks gb, RetK P fn X S (fun c => post c gb) ks ∧ ∀ r R, lk none gb r = some R → S.rt r = some R ∧ (∀ es ∈ R.els, ∀ c ∈ es, Cl true c) ∧ r ∈ pins ∧ r ∉ ks
abbrev PkF := Nat → Option (Nat × Nat × Nat)
theorem SC.mk {P : Program} {G : List (Nat × List CT)} {f : FuncId} {fn : Func} {code : Code} {nt : Nat} {cs : List CT} {rs : List (Nat × Option Root)} {post : CT → List (Nat × Option Root) → Prop} (pins : List Nat) (hf : P.funcs[f]? = some fn) (hb : fn.body = some code) (hnt : fn.ntmps = nt) (hle : Nat.ble cs.length nt = true) (hpin : pins.all (fun k => (lk none rs k).isSome) = true)
    (h : ∀ (w : World) (M N : Nat → Prop) (g : PkF), W Fence.wide 0 P ⟨w, M, N, nt, G, pins.map fun k => (k, g k)⟩ code ⟨argsS 0 cs, rs, 1⟩ (fun x S => (x = .normal ∨ x = .ret) ∧ RetS P fn ⟨w, M, N, nt, G, pins.map fun k => (k, g k)⟩ S pins post)) (hnl : Nat.ble nt FS = true := by rfl) : SC P G f cs rs post := by
  intro w N bs FP vs hN hFN hFd hbs hrs hl hr hG
  have hle' : cs.length ≤ nt := Nat.le_of_ble_eq_true hle
  refine callsIn_wide.1 (callsIn_of_wp_marks (F := Fence.wide) (n := 0) hf hb trivial ?_ rfl)
  let g : PkF := fun k => (bs k).getD none
  have hpk : ∀ p ∈ pins.map (fun k => (k, g k)), bs p.1 = some p.2 := fun p hp => by
    obtain ⟨k, hk, rfl⟩ := List.mem_map.1 hp
    have := List.all_eq_true.1 hpin k hk
    cases hR : lk none rs k with
    | none => rw [hR] at this; cases this
    | some R =>
      obtain ⟨x, hx, _⟩ := hrs k R hR
      show bs k = some ((bs k).getD none)
      rw [hx]; rfl
  have hW := h w (fun k => ∃ r, FP r k) N g { tmps := vs ++ Array.replicate (fn.ntmps - vs.size) undef, defers := [] } w ⟨N, bs, FP, {
    blk := fun _ _ _ => rfl
    size := Nat.le_refl _
    os := rfl
    tape := rfl
    output := rfl
    n1 := hN
    n0 := fun _ h => h
    n2 := fun _ h => .inl h
    f1 := fun r k hk => ⟨(hFN r k hk).1, (hFN r k hk).2, .inr ⟨r, hk⟩⟩
    f2 := hFd
    u := fun r hr => by show r < 1 * 64; have := hbs r hr; omega
    sz := by simp [hnt, hl]; omega
    pk := hpk
    nl := Nat.le_of_ble_eq_true hnl
    df := Marks.nil _ _
    fo := fun f hf => absurd hf (by
      show lk CT.un (argsS 0 cs) FS ≠ _
      rw [argsS_at, if_pos (Nat.zero_le _), Nat.sub_zero, List.getElem?_eq_none (Nat.le_trans hle' (Nat.le_of_ble_eq_true hnl))]
      simp)
    gl := hG
    ts := fun t => by
      show HV w N bs NoB (lk .un (argsS 0 cs) t) _
      rw [argsS_at]
      simp only [Nat.zero_le, if_true, Nat.sub_zero]
      cases hc : cs[t]? with
      | none => exact .un _
      | some c =>
        have ht : t < vs.size := by rw [hl]; exact (List.getElem?_eq_some_iff.1 hc).1
        have := hr t c hc
        have e : (vs ++ Array.replicate (fn.ntmps - vs.size) undef).getD t undef = vs.getD t undef := by simp [ht, Array.getElem?_append_left]
        rw [e]
        exact this
    rs := fun r R h => hrs r R h }⟩
  refine wpIn_mono hW ?_
  rintro e a w' ⟨S', hR, hx, ks, gb, hret, hgb⟩
  have key : LeavesInM Fence.wide 0 P fn a.tmps (fun e w' => ∃ (u : Value) (c : CT) (gb : List (Nat × Option Root)) (N' : Nat → Prop) (FP' : Nat → Nat → Prop) (Pr : Nat → Prop), e = .returned u ∧ post c gb ∧ Chd (fun k => ∃ r, FP r k) w w' ∧ (∀ k, N k → N' k) ∧ (∀ k, N' k → k < w'.heap.size ∧ (N k ∨ w.heap.size ≤ k ∨ ∃ r, FP r k)) ∧
      (∀ k, Pr k → (w.heap.size ≤ k ∨ ∃ r, FP r k) ∧ k < w'.heap.size ∧ ¬ N' k ∧ ∀ r, ¬ FP' r k) ∧ HR w' N' Pr c u ∧
      (∀ r k, FP' r k → (w.heap.size ≤ k ∨ ∃ r, FP r k) ∧ k < w'.heap.size ∧ ¬ N' k) ∧ (∀ r r' k, FP' r k → FP' r' k → r = r') ∧
      (∀ r R, lk none gb r = some R → (∀ es ∈ R.els, ∀ c ∈ es, Cl true c) ∧ ∃ x, bs r = some x ∧ HV w' N' bs (FP' r) (.sl R.e R.sz R.els) (hdr x R.els.length))) a.defers .returning w' := by
    obtain ⟨N', bs', FP', hI⟩ := hR
    refine hI.leaves fun w2 hI => ?_
    obtain ⟨u, c, Pr, g1, g2, g3, g4⟩ := hret _ w2 N' bs' FP' hI
    refine ⟨u, g1, u, c, gb, N', fun r k => FP' r k ∧ (lk none gb r).isSome = true, Pr, rfl, g2, ⟨hI.size, hI.os, hI.tape, hI.output, hI.blk⟩, hI.n0, fun k hk => ⟨hI.n1 k hk, hI.n2 k hk⟩, fun k hk => ?_, g4, fun r k hk => ?_, fun r r' k h1 h2 => hI.f2 r r' k h1.1 h2.1, fun r R hR => ?_⟩
    · obtain ⟨q, hq, hr⟩ := g3 k hk
      obtain ⟨e1, e2, e3⟩ := hI.f1 q k hr
      refine ⟨e3, e1, e2, fun r ⟨h1, h2⟩ => ?_⟩
      have := hI.f2 q r k hr h1
      subst this
      cases hR : lk none gb q with
      | none => rw [hR] at h2; cases h2
      | some R => exact (hgb q R hR).2.2.2 hq
    · obtain ⟨e1, e2, e3⟩ := hI.f1 r k hk.1
      exact ⟨e3, e1, e2⟩
    · obtain ⟨h1, h2, h3, h4⟩ := hgb r R hR
      obtain ⟨x, hx, hv⟩ := hI.rs r R h1
      have hp : bs r = some (g r) := hpk (r, g r) (List.mem_map.2 ⟨r, h3, rfl⟩)
      have hp' : bs' r = some (g r) := hI.pk (r, g r) (List.mem_map.2 ⟨r, h3, rfl⟩)
      rw [hx] at hp'
      cases hp'
      exact ⟨h2, _, hp, (hv.shut (.sl _ _ h2)).mono fun q hq => ⟨hq, by rw [hR]; rfl⟩⟩
  rcases hx with rfl | rfl
  · exact key
  · exact key
/-! ### the caller's side -/
/-- Roots that are handed over: under new names. -/
inductive AR (κ : Nm) (S : St) : List (Nat × Option Root) → List (Nat × Root) → Prop
  | nil : AR κ S [] []
  | row {k k' e sz : Nat} {els els' : List (List CT)} {l : List (Nat × Option Root)} {d : List (Nat × Root)} (hk : lk none κ k' = some k) (h : S.rt k = some ⟨e, sz, els⟩) (he : els = els') (hc : ∀ es ∈ els', ∀ c ∈ es, Cl true c) (h' : AR κ S l d) : AR κ S ((k', some ⟨e, sz, els'⟩) :: l) ((k, ⟨e, sz, els⟩) :: d)
  | new {k' e sz : Nat} {l : List (Nat × Option Root)} {d : List (Nat × Root)} (hk : (k', none) ∈ κ ∧ lk (some 0) κ k' = none) (h' : AR κ S l d) : AR κ S ((k', some ⟨e, sz, []⟩) :: l) d
inductive AA (κ : Nm) (S : St) : List Operand → List CT → List (Nat × CT) → Prop
  | nil : AA κ S [] [] []
  | cons {x : Operand} {c c' : CT} {xs : List Operand} {cs : List CT} {nt : List (Nat × CT)} (h : Is (S.ev x) c) (hr : Rn κ c c') (h' : AA κ S xs cs nt) : AA κ S (x :: xs) (c' :: cs) (needO x c ++ nt)
  | ag {x : Operand} {l l' : List CT} {xs : List Operand} {cs : List CT} {nt : List (Nat × CT)} (h : Is (S.ev x) (.ag l)) (hr : RnL κ l l') (h' : AA κ S xs cs nt) : AA κ S (x :: xs) (.ag l' :: cs) (needO x (.ag l) ++ nt)
theorem AR.ok {κ : Nm} {S : St} {l : List (Nat × Option Root)} {d : List (Nat × Root)} (h : AR κ S l d) : ∀ p ∈ d, S.rt p.1 = some p.2 := by
  induction h with
  | nil => exact fun p hp => nomatch hp
  | row _ h _ _ _ ih => exact fun p hp => (List.mem_cons.1 hp).elim (fun e => e ▸ h) (ih p)
  | new _ _ ih => exact ih
theorem AR.rl {κ : Nm} {S S2 : St} {l : List (Nat × Option Root)} {d : List (Nat × Root)} (h : AR κ S l d) (h2 : ∀ p ∈ d, S2.rt p.1 = some p.2) : RL κ S2 l := by
  induction h with
  | nil => exact .nil
  | row hk h he hc _ ih => exact .row hk (h2 _ List.mem_cons_self) he hc (ih fun p hp => h2 p (List.mem_cons_of_mem _ hp))
  | new hk _ ih => exact .new hk (ih h2)
theorem AR.cl {κ : Nm} {S : St} {l : List (Nat × Option Root)} {d : List (Nat × Root)} (h : AR κ S l d) : ∀ r R, lk none l r = some R → ∀ es ∈ R.els, ∀ c ∈ es, Cl true c := by
  induction h with
  | nil => exact fun r R h => nomatch h
  | @row k k' e sz els els' l d hk h he hc _ ih =>
    intro r R hR
    by_cases e1 : k' = r
    · subst e1
      rw [lk_same] at hR
      cases hR
      exact hc
    · rw [lk_ne _ _ _ e1] at hR
      exact ih r R hR
  | @new k' e sz l d hk _ ih =>
    intro r R hR
    by_cases e1 : k' = r
    · subst e1
      rw [lk_same] at hR
      cases hR
      exact fun es h => nomatch h
    · rw [lk_ne _ _ _ e1] at hR
      exact ih r R hR
theorem AA.ok {κ : Nm} {S : St} {xs : List Operand} {cs : List CT} {nt : List (Nat × CT)} (h : AA κ S xs cs nt) : ∀ p ∈ nt, S.tm p.1 = p.2 := by
  induction h with
  | nil => exact fun p hp => nomatch hp
  | cons h _ _ ih => exact fun p hp => (List.mem_append.1 hp).elim (need_ok h.eq p) (ih p)
  | ag h _ _ ih => exact fun p hp => (List.mem_append.1 hp).elim (need_ok h.eq p) (ih p)
theorem AA.hv {X : Cx} {U : Nat → Prop} {S S0 : St} {a : Act} {w : World} {N : Nat → Prop} {bs : Bs} {FP : Nat → Nat → Prop} (h : RelI X U S a w N bs FP) {κ : Nm} {xs : List Operand} {cs : List CT} {nt : List (Nat × CT)} (hl : AA κ S0 xs cs nt) (hok : ∀ p ∈ nt, S.tm p.1 = p.2) :
    cs.length = xs.length ∧ ∀ (j : Nat) c, cs[j]? = some c → HV w N (nmBs κ bs) NoB c ((xs.map a.eval).getD j undef) := by
  induction hl with
  | nil => exact ⟨rfl, fun j c hj => by simp at hj⟩
  | @cons x c c' xs cs nt h1 hr _ ih =>
    obtain ⟨g1, g2⟩ := ih fun p hp => hok p (List.mem_append_right _ hp)
    refine ⟨by simp [g1], fun j c hj => ?_⟩
    cases j with
    | zero =>
      cases hj
      have hu := h.ev x
      rw [ev_again h1.eq fun p hp => hok p (List.mem_append_left _ hp)] at hu
      exact hr.hv hu
    | succ j => simpa using g2 j c (by simpa using hj)
  | @ag x l l' xs cs nt h1 hr _ ih =>
    obtain ⟨g1, g2⟩ := ih fun p hp => hok p (List.mem_append_right _ hp)
    refine ⟨by simp [g1], fun j c hj => ?_⟩
    cases j with
    | zero =>
      cases hj
      have hu := h.ev x
      rw [ev_again h1.eq fun p hp => hok p (List.mem_append_left _ hp)] at hu
      simp only [List.map_cons, List.getD_cons_zero]
      generalize a.eval x = u at hu ⊢
      cases hu with
      | ag us hl hv => exact .ag us (by rw [hl, (hr.hv (w := w) (N := N) (bs := bs)).1]) (hr.hv.2 (fun j => us.getD j undef) (fun _ => NoB) hv)
    | succ j => simpa using g2 j c (by simpa using hj)
/-- What comes back, under the caller's names; what is taken is gone. -/
def backR : Nm → List (Nat × Option Root) → List (Nat × Option Root)
  | [], _ => []
  | (_, none) :: κ, gb => backR κ gb
  | (i, some k) :: κ, gb => (k, lk none gb i) :: backR κ gb
theorem backR_at {gb l : List (Nat × Option Root)} {r : Nat} : ∀ (κ : Nm), (∀ i i' k, (i, some k) ∈ κ → (i', some k) ∈ κ → i = i') → ((∀ i, (i, some r) ∉ κ) ∧ lk none (backR κ gb ++ l) r = lk none l r) ∨ ∃ i, (i, some r) ∈ κ ∧ lk none (backR κ gb ++ l) r = lk none gb i
  | [], _ => .inl ⟨fun i h => (nomatch h), rfl⟩
  | (i, none) :: κ, h => by
    rcases backR_at (gb := gb) (l := l) (r := r) κ (fun a b k h1 h2 => h a b k (List.mem_cons_of_mem _ h1) (List.mem_cons_of_mem _ h2)) with ⟨h1, h2⟩ | ⟨j, h1, h2⟩
    · exact .inl ⟨fun j hj => (List.mem_cons.1 hj).elim (fun e => by cases e) (h1 j), h2⟩
    · exact .inr ⟨j, List.mem_cons_of_mem _ h1, h2⟩
  | (i, some k) :: κ, h => by
    by_cases e : k = r
    · subst e
      exact .inr ⟨i, List.mem_cons_self, by simp [backR, lk]⟩
    · rcases backR_at (gb := gb) (l := l) (r := r) κ (fun a b k h1 h2 => h a b k (List.mem_cons_of_mem _ h1) (List.mem_cons_of_mem _ h2)) with ⟨h1, h2⟩ | ⟨j, h1, h2⟩
      · exact .inl ⟨fun j hj => (List.mem_cons.1 hj).elim (fun e' => absurd (by cases e'; rfl) e) (h1 j), by simp [backR, lk, e, h2]⟩
      · exact .inr ⟨j, List.mem_cons_of_mem _ h1, by simp [backR, lk, e, h2]⟩
/-- Names are told apart, both ways. -/
def nmD : Nm → List Nat → Bool
  | [], _ => true
  | (i, _) :: κ, seen => !seen.contains i && nmD κ (i :: seen)
theorem nmD_lk : ∀ (κ : Nm) (seen : List Nat), nmD κ seen = true → (∀ i x, (i, x) ∈ κ → lk none κ i = x ∧ i ∉ seen)
  | [], _, _ => fun _ _ h => nomatch h
  | (j, y) :: κ, seen, h => fun i x hi => by
    simp only [nmD, Bool.and_eq_true, Bool.not_eq_true', List.contains_eq_mem, decide_eq_false_iff_not] at h
    rcases List.mem_cons.1 hi with e | hi
    · cases e
      exact ⟨lk_same _ _ _ _, h.1⟩
    · obtain ⟨g1, g2⟩ := nmD_lk κ _ h.2 i x hi
      have hne : j ≠ i := fun e => g2 (e ▸ List.mem_cons_self)
      exact ⟨(lk_ne _ _ _ hne).trans g1, fun hs => g2 (List.mem_cons_of_mem _ hs)⟩
theorem nmD_none (κ : Nm) (h : nmD κ [] = true) {i : Nat} (hi : (i, none) ∈ κ) : lk (some 0) κ i = none := by
  have key : ∀ (κ : Nm) (seen : List Nat), nmD κ seen = true → (i, none) ∈ κ → lk (some 0) κ i = none := fun κ => by
    induction κ with
    | nil => exact fun _ _ h => nomatch h
    | cons p κ ih =>
      obtain ⟨j, y⟩ := p
      intro seen h hi
      have g := nmD_lk ((j, y) :: κ) seen h
      simp only [nmD, Bool.and_eq_true] at h
      rcases List.mem_cons.1 hi with e | hi
      · cases e
        exact lk_same _ _ _ _
      · have hne : j ≠ i := fun e => (nmD_lk κ _ h.2 i none hi).2 (e ▸ List.mem_cons_self)
        rw [lk_ne _ _ _ hne]
        exact ih _ h.2 hi
  exact key κ [] h hi
theorem lk_mem {κ : Nm} {i k : Nat} (h : lk none κ i = some k) : (i, some k) ∈ κ := by
  induction κ with
  | nil => cases h
  | cons p κ ih =>
    obtain ⟨j, y⟩ := p
    by_cases e : j = i
    · subst e
      rw [lk_same] at h
      subst h
      exact List.mem_cons_self
    · rw [lk_ne _ _ _ e] at h
      exact List.mem_cons_of_mem _ (ih h)
theorem nmFP_at {κ : Nm} {FP : Nat → Nat → Prop} {i q : Nat} (h : nmFP κ FP i q) : ∃ k, lk none κ i = some k ∧ FP k q := by
  rcases find_lk (κ := κ) (r := i) with ⟨h1, h2⟩ | ⟨x, h1, h2⟩
  · unfold nmFP at h; rw [h1] at h; exact h.elim
  · cases x with
    | none => unfold nmFP at h; rw [h1] at h; exact h.elim
    | some k => exact ⟨k, h2 none, by rwa [nmFP_some (h2 none)] at h⟩
section
variable {F : Fence} {n : Nat} {P : Program} {X : Cx} {ops : Array Oper} {o : Oper} {os : List Oper} {t : List (Nat × CT)} {r : List (Nat × Option Root)} {nx : Nat} {K : St → Prop} {dst ty : Nat} {pos : String} {af : Array Edge}
def SgS (F : Fence) (n : Nat) (P : Program) (X : Cx) (ops : Array Oper) (o : Oper) (t : List (Nat × CT)) (r : List (Nat × Option Root)) (nx : Nat) (d : Nd) (ks : List Nat) (dst : Nat) (κ : Nm) (post : CT → List (Nat × Option Root) → Prop) : Prop :=
  OpL F n P X ops o d ks (fun E => ∃ c gb, post c gb ∧ E = ⟨[(dst, rC (nx * 64) c)], rRC (nx * 64) c ++ backR κ gb⟩) ∧ d.ok ⟨t, r, nx⟩ ∧ ∀ k ∈ ks, nx * 64 ≤ k ∧ k < nx * 64 + 64
theorem dvK {d : Nd} {ks : List Nat} {κ : Nm} {post : CT → List (Nat × Option Root) → Prop} (h : SgS F n P X ops o t r nx d ks dst κ post) (hK : ∀ c gb, post c gb → DvT F n P X ops os ((dst, rC (nx * 64) c) :: t) (rRC (nx * 64) c ++ backR κ gb ++ r) (nx + 1) K) : DvT F n P X ops (o :: os) t r nx K :=
  ⟨t, r, nx, fun _ _ h => h, d, ks, _, h.1, h.2.1, h.2.2, by rintro E ⟨c, gb, hc, rfl⟩; exact hK c gb hc⟩
theorem sg_callS [hF : Wd F] {o : Oper} {d : Nd} {f : FuncId} {cs : List CT} {rs : List (Nat × Option Root)} {κ : Nm} {nr : List (Nat × Root)} {post : CT → List (Nat × Option Root) → Prop} (ho : o.dst = some dst) (hg : o.guard = none) (hdf : ∀ c, o.op ≠ .defer c) (hd0 : d.ok ⟨t, r, nx⟩) (hκ : nmB κ 64 [] = true) (hκ2 : nmD κ [] = true) {κv : Nm} (hκv : nmB κv 64 [] = true) (hκv2 : nmD κv [] = true) (hsub : κ.all (fun p => κv.contains p) = true) (hr : AR κ ⟨t, r, nx⟩ rs nr) (hnr : ∀ p ∈ nr, p ∈ d.r) (hc : SC P X.G f cs rs post) (hok : ∀ c gb, post c gb → rOk c = true)
    (hrun : ∀ U S a w N bs FP, d.ok S → RelI X U S a w N bs FP → ∃ vs : Array Value, (execOp a.eval o).run P w = .ok (.enter f vs) w ∧ vs.size = cs.length ∧ ∀ (j : Nat) c, cs[j]? = some c → HV w N (nmBs κv bs) NoB c (vs.getD j undef)) :
    SgS F n P X ops o t r nx d ((List.range 64).map (nx * 64 + ·)) dst κ post := by
  refine ⟨?_, hd0, fun k hk => by
    obtain ⟨j, hj, rfl⟩ := List.mem_map.1 hk
    simp at hj
    omega⟩
  intro i hi hdd Q U S a w hd hk hR
  obtain ⟨N, bs, FP, hR⟩ := hR
  obtain ⟨vs, hrun, hlen, hrd⟩ := hrun U S a w N bs FP hd hR
  obtain ⟨k1, _, k3⟩ := nmB_ok κ [] hκ
  have kl := nmD_lk κ [] hκ2
  obtain ⟨v1, _, _⟩ := nmB_ok κv [] hκv
  have vl := nmD_lk κv [] hκv2
  have hvk : ∀ i x, (i, x) ∈ κ → (i, x) ∈ κv := fun i x h => by have := List.all_eq_true.1 hsub _ h; simpa using this
  have hbv : ∀ i x, (i, x) ∈ κ → nmBs κv bs i = nmBs κ bs i := fun i x h => by
    have e1 := (kl i x h).1
    have e2 := (vl i x (hvk i x h)).1
    cases x with
    | some k => rw [nmBs_some e1, nmBs_some e2]
    | none => rw [nmBs_nil ⟨h, nmD_none κ hκ2 h⟩, nmBs_nil ⟨hvk _ _ h, nmD_none κv hκv2 (hvk _ _ h)⟩]
  have hrl : RL κ S rs := hr.rl fun p hp => hd.r p (hnr p hp)
  have hcall := hc w N (nmBs κv bs) (nmFP κ FP) vs hR.n1 (fun i q hq => by
    obtain ⟨k, _, hk⟩ := nmFP_at hq
    exact ⟨(hR.f1 k q hk).1, (hR.f1 k q hk).2.1⟩) (fun i i' q h1 h2 => by
    obtain ⟨k, e1, f1⟩ := nmFP_at h1
    obtain ⟨k', e2, f2⟩ := nmFP_at h2
    have := hR.f2 k k' q f1 f2
    subst this
    exact k3 i i' k e1 e2) (fun q hq => by
    rcases find_lk (κ := κv) (r := q) with ⟨h1, h2⟩ | ⟨x, h1, h2⟩
    · exact absurd (by unfold nmBs; rw [h1]) hq
    · exact v1 (q, x) (List.mem_of_find?_eq_some h1)) (fun r R hR' => by
    obtain ⟨x, hx, hv⟩ := hrl.hv hR r R hR'
    have hm : ∃ y, (r, y) ∈ κ := by
      rcases find_lk (κ := κ) (r := r) with ⟨h1, h2⟩ | ⟨y, h1, h2⟩
      · exact absurd (by unfold nmBs; rw [h1]) (by rw [hx]; simp : nmBs κ bs r ≠ none)
      · exact ⟨y, List.mem_of_find?_eq_some h1⟩
    obtain ⟨y, hm⟩ := hm
    exact ⟨x, (hbv r y hm).trans hx, hv.shut (.sl _ _ (hr.cl r R hR'))⟩) hlen hrd hR.gl
  refine opWp_enter hg hdf hrun ((Wd.ci _ _ _ _ _ _ hcall).mono ?_)
  rintro e w' ⟨u, c, gb, N', FP', Pr, rfl, hp, hb, hN1, hN2, hPr, hres, hF1, hF2, hgb⟩
  refine ⟨u, rfl, ?_⟩
  rw [ho]
  have h8 := hok c gb hp
  have hold : ∀ {q}, (∃ i, nmFP κ FP i q) → ∃ i k, (i, some k) ∈ κ ∧ FP k q := fun ⟨i, hq⟩ => by
    obtain ⟨k, e1, f1⟩ := nmFP_at hq
    exact ⟨i, k, lk_mem e1, f1⟩
  have hD : ∀ q, (∃ i, nmFP κ FP i q) → ∃ r, FP r q := fun q hq => by
    obtain ⟨i, k, _, f1⟩ := hold hq
    exact ⟨k, f1⟩
  let FPn : Nat → Nat → Prop := fun r q => (∃ i, (i, some r) ∈ κ ∧ FP' i q) ∨ ((∀ i, (i, some r) ∉ κ) ∧ FP r q)
  have hoth : ∀ r q, (∀ i, (i, some r) ∉ κ) → FP r q → ¬ ∃ i, nmFP κ FP i q := fun r q hr hq hh => by
    obtain ⟨i, k, hm, f1⟩ := hold hh
    have := hR.f2 r k q hq f1
    subst this
    exact hr i hm
  have hN1' : ∀ k, N' k → k < w'.heap.size := fun k hk => (hN2 k hk).1
  have hN2' : ∀ k, N' k → N k ∨ w.heap.size ≤ k ∨ ∃ r, FP r k := fun k hk => (hN2 k hk).2.imp id fun h => h.imp id (hD k)
  have hkeep : ∀ r q, (∀ i, (i, some r) ∉ κ) → FP r q → w'.heap[q]? = w.heap[q]? := fun r q hr hq => hb.blk q (hR.f1 r q hq).1 (hoth r q hr hq)
  have hin : ∀ q, (w.heap.size ≤ q ∨ ∃ i, nmFP κ FP i q) → X.w0.heap.size ≤ q ∨ X.M q := fun q hq => hq.elim (fun h => .inl (Nat.le_trans hR.size h)) fun h => by
    obtain ⟨r, hr⟩ := hD q h
    exact (hR.f1 r q hr).2.2
  have hFPn : ∀ r q, FPn r q → (∃ r', FP r' q) ∨ w.heap.size ≤ q := fun r q hq => by
    rcases hq with ⟨i, _, hq⟩ | ⟨_, hq⟩
    · exact (hF1 i q hq).1.elim .inr fun h => .inl (hD q h)
    · exact .inl ⟨r, hq⟩
  have inj : ∀ i i' k, (i, some k) ∈ κ → (i', some k) ∈ κ → i = i' := fun i i' k h1 h2 => k3 i i' k (kl i _ h1).1 (kl i' _ h2).1
  have far : ∀ r q i, (∀ i, (i, some r) ∉ κ) → FP r q → FP' i q → False := fun r q i hr hq hq' => (hF1 i q hq').1.elim (fun h => by have := (hR.f1 r q hq).1; omega) (hoth r q hr hq)
  have hR1 : RelI X U ⟨S.t, backR κ gb ++ S.r, S.nx⟩ a w' N' bs FPn := by
    refine hR.nextK hb hD hN1 hN1' hR.u (fun r q hq => ?_) (fun r r' q hq hq' => ?_) hR.sz rfl (fun tt => (hR.ts tt).frame (fun _ h => h.elim) (hR.same_N hb hD) hN1 (fun _ _ h => h)) (fun r R hr => ?_) hFPn (fun _ h => h) hR.pk hN2'
    · rcases hq with ⟨i, hm, hq⟩ | ⟨hr, hq⟩
      · obtain ⟨g1, g2, g3⟩ := hF1 i q hq
        exact ⟨g2, g3, hin q g1⟩
      · obtain ⟨g1, g2, g3⟩ := hR.f1 r q hq
        exact ⟨Nat.lt_of_lt_of_le g1 hb.size, fun hn => (hN2 q hn).2.elim g2 fun h => h.elim (fun h => by omega) (hoth r q hr hq), g3⟩
    · rcases hq with ⟨i, hm, hq⟩ | ⟨hr, hq⟩ <;> rcases hq' with ⟨i', hm', hq'⟩ | ⟨hr', hq'⟩
      · have := hF2 i i' q hq hq'
        subst this
        have e1 := (kl i _ hm).1
        rw [(kl i _ hm').1] at e1
        exact (Option.some.inj e1).symm
      · exact (far r' q i hr' hq' hq).elim
      · exact (far r q i' hr hq hq').elim
      · exact hR.f2 r r' q hq hq'
    · have hr' : lk none (backR κ gb ++ S.r) r = some R := hr
      rcases backR_at (gb := gb) (l := S.r) (r := r) κ inj with ⟨h1, h2⟩ | ⟨i, h1, h2⟩
      · rw [h2] at hr'
        obtain ⟨x, hx, hv⟩ := hR.rs r R hr'
        exact ⟨x, hx, (hv.frame (fun q hq => hkeep r q h1 hq) (hR.same_N hb hD) hN1 (fun _ _ h => h)).mono fun q hq => .inr ⟨h1, hq⟩⟩
      · rw [h2] at hr'
        obtain ⟨hcl, x, hx, hv⟩ := hgb i R hr'
        rw [hbv i _ h1, nmBs_some (kl i _ h1).1] at hx
        exact ⟨x, hx, (hv.shut (.sl _ _ hcl)).mono fun q hq => .inl ⟨i, h1, hq⟩⟩
  obtain ⟨bs', FP'', g1, g2, g3, g4⟩ := (RelI.bare hR1).addR (bare_of _ _ _ _) (key := nx * 64) (fun j hj => hk _ (List.mem_map.2 ⟨j, by simpa using hj, rfl⟩)) h8 (fun q hq => by
    obtain ⟨e1, e2, e3, e4⟩ := hPr q hq
    refine ⟨e2, e3, hin q e1, fun r hr => ?_⟩
    rcases hr with ⟨i, _, hr⟩ | ⟨hm, hr⟩
    · exact e4 i hr
    · exact e1.elim (fun h => by have := (hR.f1 r q hr).1; omega) (hoth r q hm hr)) hres
  refine ⟨⟨[(dst, rC (nx * 64) c)], rRC (nx * 64) c ++ backR κ gb⟩, ⟨c, gb, hp, rfl⟩, N', bs', FP'', ?_⟩
  have hfd := hR.fd (N' := N') (FP' := FP'') hb hD hN1 hN2' (fun r q hq => (g4 r q hq).elim (hFPn r q) fun h => (hPr q h).1.elim .inr fun h => .inl (hD q h))
  have g1 := RelI.unbare (r' := S.r) (nx' := S.nx) g1 hfd.1 hfd.2 ((hR1.ts FS).refs g2)
  have := g1.quiet (d := some dst) (c := rC (nx * 64) c) (v := u) (fun k hk => hdd i _ k hi (ho.trans hk)) g3
  refine RelI.weakU (this.nx rfl (List.append_assoc _ _ _)) fun q hq => ?_
  rcases hq with hq | hq
  · exact .inl hq
  · exact .inr (List.mem_map.2 ⟨q - nx * 64, by simp; omega, by omega⟩)
/-- Such a call. -/
theorem l_callS [hF : Wd F] {f : FuncId} {xs : List Operand} {cs : List CT} {nt : List (Nat × CT)} {rs : List (Nat × Option Root)} {nr : List (Nat × Root)} {at_ : Array TypeId} {post : CT → List (Nat × Option Root) → Prop} (κ κv : Nm) (hκ : nmB κ 64 [] = true) (hκ2 : nmD κ [] = true) (hκv : nmB κv 64 [] = true) (hκv2 : nmD κv [] = true) (hsub : κ.all (fun p => κv.contains p) = true) (hf : FnI P f) (ha : AA κv ⟨t, r, nx⟩ xs cs nt) (hr : AR κ ⟨t, r, nx⟩ rs nr) (hc : SC P X.G f cs rs post) (hok : ∀ c gb, post c gb → rOk c = true) :
    SgS F n P X ops ⟨some dst, .call { callee := .value (.func f), args := xs.toArray, argTypes := at_ }, ty, pos, af, none⟩ t r nx ⟨nt, nr⟩ ((List.range 64).map (nx * 64 + ·)) dst κ post := by
  refine sg_callS rfl rfl (by simp) ⟨ha.ok, hr.ok⟩ hκ hκ2 hκv hκv2 hsub hr (fun _ h => h) hc hok fun U S a w N bs FP hd hR => ?_
  obtain ⟨hlen, hrd⟩ := AA.hv hR ha hd.t
  refine ⟨(xs.map a.eval).toArray, ?_, by simp [hlen], fun j c hj => by have := hrd j c hj; simpa using this⟩
  have e : execOp a.eval ⟨some dst, .call { callee := .value (.func f), args := xs.toArray, argTypes := at_ }, ty, pos, af, none⟩ = callFunc f (#[] ++ xs.toArray.map a.eval ++ #[]) := rfl
  rw [e, hf.run]
  simp
theorem deK {anc : List (List Nat)} {pre : List Ent} {i : Nat} {π : List Nat} {d : Nd} {ks : List Nat} {κ : Nm} {c : CT} {gb : List (Nat × Option Root)} (hi : ops[i]? = some o) (h : SgS F n P X ops o t r nx d ks dst κ (fun c' gb' => c' = c ∧ gb' = gb)) (hc : okB anc pre ⟨i, d.t.map (·.1), d.r.map (·.1), [dst], (rRC (nx * 64) c ++ backR κ gb).map (·.1)⟩ = true)
    (hK : DvD F n P X ops anc (⟨i, d.t.map (·.1), d.r.map (·.1), [dst], (rRC (nx * 64) c ++ backR κ gb).map (·.1)⟩ :: pre) π ((dst, rC (nx * 64) c) :: t) (rRC (nx * 64) c ++ backR κ gb ++ r) (nx + 1) K) : DvD F n P X ops anc pre (i :: π) t r nx K := by
  refine ddt (E := ⟨[(dst, rC (nx * 64) c)], rRC (nx * 64) c ++ backR κ gb⟩) ⟨?_, h.2.1, h.2.2⟩ hi hc hK
  have e : (fun E => ∃ c' gb', (c' = c ∧ gb' = gb) ∧ E = (⟨[(dst, rC (nx * 64) c')], rRC (nx * 64) c' ++ backR κ gb'⟩ : Eff)) = fun E => E = ⟨[(dst, rC (nx * 64) c)], rRC (nx * 64) c ++ backR κ gb⟩ := by
    funext E
    exact propext ⟨fun ⟨c', gb', h1, h2⟩ => by obtain ⟨rfl, rfl⟩ := h1; exact h2, fun h => ⟨c, gb, ⟨rfl, rfl⟩, h⟩⟩
  have := h.1
  rwa [e] at this
theorem gb0 {S : St} {pins ks : List Nat} : ∀ r R, lk none ([] : List (Nat × Option Root)) r = some R → S.rt r = some R ∧ (∀ es ∈ R.els, ∀ c ∈ es, Cl true c) ∧ r ∈ pins ∧ r ∉ ks := fun _ _ h => nomatch h
theorem gbC {S : St} {pins ks : List Nat} {k : Nat} {R : Root} {gb : List (Nat × Option Root)} (h : S.rt k = some R) (hc : ∀ es ∈ R.els, ∀ c ∈ es, Cl true c) (hp : k ∈ pins) (hk : k ∉ ks) (h' : ∀ r R, lk none gb r = some R → S.rt r = some R ∧ (∀ es ∈ R.els, ∀ c ∈ es, Cl true c) ∧ r ∈ pins ∧ r ∉ ks) : ∀ r R', lk none ((k, some R) :: gb) r = some R' → S.rt r = some R' ∧ (∀ es ∈ R'.els, ∀ c ∈ es, Cl true c) ∧ r ∈ pins ∧ r ∉ ks := fun r R' hr => by
  by_cases e : k = r
  · subst e
    rw [lk_same] at hr
    cases hr
    exact ⟨h, hc, hp, hk⟩
  · rw [lk_ne _ _ _ e] at hr
    exact h' r R' hr
theorem q_endS {P : Program} {X : Cx} {S : St} {fn : Func} {pins : List Nat} {post : CT → List (Nat × Option Root) → Prop} {x : Exit} (hx : x = .normal ∨ x = .ret) (h : RetS P fn X S pins post) : (fun (x : Exit) (S : St) => (x = .normal ∨ x = .ret) ∧ RetS P fn X S pins post) x S := ⟨hx, h⟩
theorem okS {c : CT} {gb : List (Nat × Option Root)} {p : Prop} (h : rOk c = true ∧ p) : ∀ c' gb', (c' = c ∧ gb' = gb) → rOk c' = true := by
  rintro _ _ ⟨rfl, _⟩
  exact h.1
end
end Go.Proofs.YtpeafglbhjjbhaaDoor

