/- Deep words, eighth part: stores, appends. -/
import Derived.Test.YtpeafglbhjjbhaaDoorDG
namespace Go.Proofs.YtpeafglbhjjbhaaDoor
open Go Go.RowKit

section
variable {F : Fence} {n : Nat} {P : Program} {X : Cx} {ops : Array Oper} {t : List (Nat × CT)} {r : List (Nat × Option Root)} {nx : Nat} [hF : Wd F] {dst ty : Nat} {pos : String} {af : Array Edge}
theorem l_store {T s : Nat} {x y : Operand} {k sz i o e : Nat} {els : List (List CT)} {es : List CT} {c : CT} {agg : Bool} (hT : TyI P T agg s) (hx : St.ev ⟨t, r, nx⟩ x = .ad k sz i o) (hy : Is (St.ev ⟨t, r, nx⟩ y) c) (hr : St.rt ⟨t, r, nx⟩ k = some ⟨e, sz, els⟩) (hi : els[i]? = some es)
    (hl : (cellsC c).length = s) (ho : o + s ≤ es.length) (h1 : (cellsC c).all CT.one = true) :
    Sg F n P X ops ⟨none, .store T x y, ty, pos, af, none⟩ t r nx ⟨needO x (.ad k sz i o) ++ needO y c, [(k, ⟨e, sz, els⟩)]⟩ [] ⟨[], [(k, some ⟨e, sz, els.set i (setC es o (cellsC c))⟩)]⟩ := by
  refine ⟨?_, ⟨fun p hp => (List.mem_append.1 hp).elim (need_ok hx p) (need_ok hy.eq p), fun p hp => by simp at hp; subst hp; exact hr⟩, fun _ h => by cases h⟩
  intro i' hi' hdd Q U S a w hd hk hR
  obtain ⟨N, bs, FP, hR⟩ := hR
  obtain ⟨g, off, cap, hb, he⟩ := hR.ev_ad (ev_again hx fun p hp => hd.t p (List.mem_append_left _ hp))
  have hey := hR.ev y
  rw [ev_again hy.eq fun p hp => hd.t p (List.mem_append_right _ hp)] at hey
  have hr' := hd.r (k, ⟨e, sz, els⟩) (by simp)
  have hv := hey.cells h1
  obtain ⟨cur, us, Q', hg, hh, hsz, hcap, hm, hz, hQ, hdj, hw, hone, hvv⟩ := hR.root hb hr'
  have hes : es.length = sz := hz es (List.mem_of_getElem? hi)
  have hil : i < els.length := (List.getElem?_eq_some_iff.1 hi).1
  have hvl : (a.eval y).cells.toList.length = s := by rw [hv.1, hl]
  have hfit : off + (i * sz + o) + 0 + (a.eval y).cells.toList.length ≤ cur.size := by
    have : (i + 1) * sz ≤ cap * sz := Nat.mul_le_mul_right _ (by omega)
    rw [Nat.succ_mul] at this
    omega
  have hrun := run_storeCells_at P g (off + (i * sz + o)) e (a.eval y).cells.toList 0 cur w hh hfit (hv.one h1)
  simp only [Nat.add_zero] at hrun
  have hst := hR.store (w' := w.setRow g (cur.toList.take (off + (i * sz + o)) ++ (a.eval y).cells.toList ++ cur.toList.drop (off + (i * sz + o) + (a.eval y).cells.toList.length)).toArray) hb hr' hi (by rw [hl]; exact ho) hv h1 hh
    ⟨by rw [size_setRow]; exact Nat.le_refl _, rfl, rfl, rfl, fun q hq hne => setRow_other w g q _ hne⟩ (size_setRow _ _ _) (setRow_heap w g cur _ e _ hh) none
  refine opWp_skip (w' := w.setRow g (cur.toList.take (off + (i * sz + o)) ++ (a.eval y).cells.toList ++ cur.toList.drop (off + (i * sz + o) + (a.eval y).cells.toList.length)).toArray) rfl (by simp) ?_ ⟨_, rfl, N, bs, FP, (hst.resolve_right (by simp)).weakU fun _ h => .inl h⟩
  have hsz' : (a.eval y).cells.size = s := by simpa using hvl
  simp [execOp, Instr.storeAt, Instr.sureAddr, he, storeVar, hT.sz, hsz', hrun]
end
/-- Rows side by side. -/
theorem HV.rows2 {w w' : World} {N : Nat → Prop} {bs bs' : Bs} {FPk : Nat → Prop} {e sz g off cap m : Nat} {els0 nls : List (List CT)} {cur : Array Value} (us1 us2 : Nat → Nat → Value) (Q1 Q2 : Nat → Nat → Nat → Prop) (hm : els0.length = m) (hg : FPk g) (hh : w'.heap[g]? = some (.cells cur e (0, 0))) (hs : cur.size = off + cap * sz)
    (hc : m + nls.length ≤ cap) (h63 : cap ≤ 9223372036854775807) (hz0 : ∀ es ∈ els0, es.length = sz) (hz1 : ∀ es ∈ nls, es.length = sz) (hQ1 : ∀ i o q, Q1 i o q → FPk q ∧ q ≠ g) (hQ2 : ∀ i o q, Q2 i o q → FPk q ∧ q ≠ g) (hd1 : ∀ i o i' o' k, Q1 i o k → Q1 i' o' k → i = i' ∧ o = o') (hd2 : ∀ i o i' o' k, Q2 i o k → Q2 i' o' k → i = i' ∧ o = o') (hd : ∀ i o i' o' k, Q1 i o k → ¬ Q2 i' o' k)
    (hw1 : ∀ i o es c, els0[i]? = some es → es[o]? = some c → cur[off + (i * sz + o)]? = some (us1 i o) ∧ (us1 i o).oneCell' = true ∧ HV w N bs (Q1 i o) c (us1 i o)) (hw2 : ∀ i o es c, nls[i]? = some es → es[o]? = some c → cur[off + ((m + i) * sz + o)]? = some (us2 i o) ∧ (us2 i o).oneCell' = true ∧ HV w N bs (Q2 i o) c (us2 i o))
    (hf : ∀ P c u, (∀ q, P q → FPk q ∧ q ≠ g) → HV w N bs P c u → HV w' N bs' P c u) : HV w' N bs' FPk (.sl e sz (els0 ++ nls)) (.slice (some ⟨g, off, none⟩) (m + nls.length) cap) := by
  refine .own g off _ cap cur (fun i o => if i < m then us1 i o else us2 (i - m) o) (fun i o q => if i < m then Q1 i o q else Q2 (i - m) o q) (by simp [hm]) hg hh hs (by omega) h63 ?_ ?_ ?_ ?_ ?_ ?_
  · intro es he
    rcases List.mem_append.1 he with he | he
    · exact hz0 es he
    · exact hz1 es he
  · intro i o q hq
    split at hq
    · exact hQ1 i o q hq
    · exact hQ2 _ o q hq
  · intro i o i' o' q h1 h2
    split at h1 <;> split at h2
    · exact hd1 i o i' o' q h1 h2
    · exact absurd h2 (hd _ _ _ _ q h1)
    · exact absurd h1 (hd _ _ _ _ q h2)
    · obtain ⟨e1, e2⟩ := hd2 _ o _ o' q h1 h2
      exact ⟨by omega, e2⟩
  all_goals intro i o es c hi ho
  all_goals
    by_cases him : i < m
    · rw [List.getElem?_append_left (by omega)] at hi
      obtain ⟨g1, g2, g3⟩ := hw1 i o es c hi ho
      simp only [if_pos him]
      first
        | exact g1
        | exact g2
        | exact hf _ _ _ (hQ1 i o) g3
    · rw [List.getElem?_append_right (by omega), hm] at hi
      obtain ⟨g1, g2, g3⟩ := hw2 (i - m) o es c hi ho
      simp only [if_neg him]
      first
        | (rw [show m + (i - m) = i by omega] at g1; exact g1)
        | exact g2
        | exact hf _ _ _ (hQ2 (i - m) o) g3
def noneR (kl : List Nat) : List (Nat × Option Root) := kl.map fun k => (k, none)
theorem lk_noneR (kl : List Nat) (l : List (Nat × Option Root)) (r : Nat) : lk none (noneR kl ++ l) r = if r ∈ kl then none else lk none l r := by
  induction kl with
  | nil => rfl
  | cons k kl ih =>
    simp only [noneR, List.map_cons, List.cons_append, lk] at ih ⊢
    by_cases e : k = r
    · subst e; simp
    · rw [if_neg e, ih]
      by_cases h : r ∈ kl
      · rw [if_pos h, if_pos (by simp [h])]
      · rw [if_neg h, if_neg (by simp [h, Ne.symm e])]
/-- A new root that takes up others. -/
theorem RelI.take {X : Cx} {U : Nat → Prop} {S : St} {a : Act} {w w' : World} {N : Nat → Prop} {bs : Bs} {FP : Nat → Nat → Prop} (h : RelI X U S a w N bs FP) {d : Option Nat} {c : CT} {v : Value} (hdn : ∀ k, d = some k → k < X.nt) {key : Nat} (hk : ¬ U key) {D : Nat → Prop} (kl : List Nat) (hc : Chd D w w') (hD : ∀ q, D q → ∃ k ∈ kl, FP k q)
    {FPk : Nat → Prop} (hF : ∀ q, FPk q → (∃ k ∈ kl, FP k q) ∨ (w.heap.size ≤ q ∧ q < w'.heap.size)) {R : Root} {b : Option (Nat × Nat × Nat)} (hv : HV w' N (upd bs key (some b)) FPk (.sl R.e R.sz R.els) (hdr b R.els.length)) (hcv : HV w' N (upd bs key (some b)) NoB c v) :
    RelI X (fun r => U r ∨ r ∈ [key]) (S.app ⟨tE d c, (key, some R) :: noneR kl⟩) (a.put d v) w' N (upd bs key (some b)) (fun r q => if r = key then FPk q else if r ∈ kl then False else FP r q) := by
  have hbk : bs key = none := by
    cases hb : bs key with
    | none => rfl
    | some x => exact absurd (h.u key (by rw [hb]; simp)) hk
  have hbs : ∀ r x, bs r = some x → upd bs key (some b) r = some x := fun r x hx => by
    by_cases e : r = key
    · subst e; rw [hbk] at hx; cases hx
    · rw [upd_ne _ _ e]; exact hx
  have hD' : ∀ q, D q → ∃ r, FP r q := fun q hq => by obtain ⟨k, _, hk⟩ := hD q hq; exact ⟨k, hk⟩
  refine h.next hc hD' (fun _ h => h) (fun q hq => Nat.lt_of_lt_of_le (h.n1 q hq) hc.size) ?_ ?_ ?_ ((put_size a d v).trans h.sz) (put_defers a d v) ?_ ?_ (fun r q hq => by
    split at hq
    · exact (hF q hq).imp (fun ⟨k, _, hk⟩ => ⟨k, hk⟩) fun h => h.1
    · split at hq
      · exact hq.elim
      · exact .inl ⟨r, hq⟩) (fs_app h.nl hdn) hbs
  · intro r hr
    by_cases e : r = key
    · exact .inr (by simp [e])
    · rw [upd_ne _ _ e] at hr; exact .inl (h.u r hr)
  · intro r q hq
    split at hq
    · rcases hF q hq with ⟨k, _, hq⟩ | hq
      · have := h.f1 k q hq
        exact ⟨Nat.lt_of_lt_of_le this.1 hc.size, this.2⟩
      · exact ⟨hq.2, fun hn => by have := h.n1 q hn; omega, .inl (Nat.le_trans h.size hq.1)⟩
    · split at hq
      · exact hq.elim
      · have := h.f1 r q hq
        exact ⟨Nat.lt_of_lt_of_le this.1 hc.size, this.2⟩
  · intro r r' q hq hq'
    have key1 : ∀ s, s ≠ key → (if s ∈ kl then False else FP s q) → ¬ FPk q := fun s hs hsq hf => by
      split at hsq
      · exact hsq
      · rename_i hnk
        rcases hF q hf with ⟨k, hkl, hk⟩ | hf
        · exact hnk ((h.f2 k s q hk hsq) ▸ hkl)
        · have := (h.f1 s q hsq).1; omega
    by_cases e : r = key <;> by_cases e' : r' = key
    · rw [e, e']
    · simp only [if_pos e] at hq
      simp only [if_neg e'] at hq'
      exact absurd hq (key1 r' e' hq')
    · simp only [if_pos e'] at hq'
      simp only [if_neg e] at hq
      exact absurd hq' (key1 r e hq)
    · simp only [if_neg e] at hq
      simp only [if_neg e'] at hq'
      split at hq
      · exact hq.elim
      · split at hq'
        · exact hq'.elim
        · exact h.f2 r r' q hq hq'
  · exact ts_put (fun t => h.ts_next hc hD' (fun _ h => h) hbs (h.ts t)) (fun q hq => by rw [h.sz]; exact hdn q hq) hcv _
  · intro r R' hR
    rw [St.rt_app] at hR
    by_cases e : key = r
    · rw [if_pos e] at hR
      cases hR
      subst e
      refine ⟨_, upd_same _ _ _, ?_⟩
      have : (fun q => if key = key then FPk q else if key ∈ kl then False else FP key q) = FPk := by funext q; simp
      rw [this]
      exact hv
    · rw [if_neg e] at hR
      have hR' : lk none (noneR kl ++ S.r) r = some R' := hR
      rw [lk_noneR] at hR'
      split at hR'
      · cases hR'
      · rename_i hnk
        have : (fun q => if r = key then FPk q else if r ∈ kl then False else FP r q) = FP r := by funext q; simp [Ne.symm e, hnk]
        rw [this]
        exact h.rs_next hc hD' (fun _ h => h) hbs hR' fun q hq hf => by
          obtain ⟨k, hkl, hk⟩ := hD q hq
          exact hnk ((h.f2 k r q hk hf) ▸ hkl)
end Go.Proofs.YtpeafglbhjjbhaaDoor

