import Derived.Test.YtakpikoffbgjfaaHP
import Derived.Test.YtakpikoffbgjfaaOrd2
namespace Go.Proofs.Ytakpikoffbgjfaa
open Go.RowKit Go.Maps

theorem E50 : ElemT Try.prog 50 77 6 96 := .mk' (z := .agg #[.int .i64 0, .slice none 0 0, .slice none 0 0, .slice none 0 0, .int .i64 0, .bool false]) Try.underlying50 (by kernel_rfl) rfl (by omega)
/-- A thing of the reference. -/
structure RT where
  kind : Int
  vals : List VV
  keys : List Int
  under : List Int
  frame : Int
  gone : Bool
structure RQ where
  v : Value
  k : Value
  u : Value
def RQ.s (q : RQ) : Fin 3 → Value | 0 => q.v | 1 => q.k | 2 => q.u
structure RM where
  l : List RT
  frames : Int
  limit : Int
  used : Int
  makes : Int
def rc (t : RT) (q : RQ) : List Value := [I t.kind, q.v, q.k, q.u, I t.frame, .bool t.gone]
def rcs : List RT → List RQ → List Value
  | t :: ts, q :: qs => rc t q ++ rcs ts qs
  | _, _ => []
theorem rcs_append : ∀ (a : List RT) (b : List RQ), a.length = b.length → ∀ (a' : List RT) (b' : List RQ), rcs (a ++ a') (b ++ b') = rcs a b ++ rcs a' b'
  | [], [], _, _, _ => rfl
  | _ :: a, _ :: b, h, a', b' => by simp only [List.cons_append, rcs, List.append_assoc]; rw [rcs_append a b (by simpa using h)]
  | [], _ :: _, h, _, _ => by simp at h
  | _ :: _, [], h, _, _ => by simp at h
theorem rcs_length : ∀ (a : List RT) (b : List RQ), a.length = b.length → (rcs a b).length = a.length * 6
  | [], [], _ => rfl
  | _ :: a, _ :: b, h => by simp only [rcs, rc, List.length_append, List.length_cons, List.length_nil]; rw [rcs_length a b (by simpa using h)]; omega
  | [], _ :: _, h => by simp at h
  | _ :: _, [], h => by simp at h
theorem rcs_at : ∀ (a : List RT) (b : List RQ) (i : Nat) (t : RT) (q : RQ), a[i]? = some t → b[i]? = some q → ∀ j, j < 6 → (rcs a b)[i * 6 + j]? = (rc t q)[j]?
  | [], _, i, t, q, h, _, _, _ => by simp at h
  | _ :: _, [], i, t, q, _, h, _, _ => by simp at h
  | x :: a, y :: b, 0, t, q, h, h2, j, hj => by
    simp at h h2; subst h h2
    simp only [rcs, Nat.zero_mul, Nat.zero_add]
    rw [List.getElem?_append_left (by simpa [rc] using hj)]
  | x :: a, y :: b, i + 1, t, q, h, h2, j, hj => by
    have := rcs_at a b i t q (by simpa using h) (by simpa using h2) j hj
    simp only [rcs]
    rw [List.getElem?_append_right (by simp [rc]; omega), ← this]
    congr 1
    simp [rc]; omega
theorem rcs_set : ∀ (a : List RT) (b : List RQ) (i : Nat) (t t' : RT) (q q' : RQ), a[i]? = some t → b[i]? = some q → ∀ j u, j < 6 → (rc t q).set j u = rc t' q' → (rcs a b).set (i * 6 + j) u = rcs (a.set i t') (b.set i q')
  | [], _, i, t, t', q, q', h, _, _, _, _, _ => by simp at h
  | _ :: _, [], i, t, t', q, q', _, h, _, _, _, _ => by simp at h
  | x :: a, y :: b, 0, t, t', q, q', h, h2, j, u, hj, hs => by
    simp at h h2; subst h h2
    simp only [rcs, List.set_cons_zero, Nat.zero_mul, Nat.zero_add]
    rw [List.set_append_left _ _ (by simpa [rc] using hj), hs]
  | x :: a, y :: b, i + 1, t, t', q, q', h, h2, j, u, hj, hs => by
    have := rcs_set a b i t t' q q' (by simpa using h) (by simpa using h2) j u hj hs
    simp only [rcs, List.set_cons_succ]
    rw [List.set_append_right _ _ (by simp [rc]; omega), ← this]
    congr 2
    simp [rc]; omega
/-- How a thing of the reference lies. -/
structure RtW (w : World) (F : Nat → Prop) (t : RT) (q : RQ) : Prop where
  v : w.ownsRow 0 30 3 q.v t.vals.length (vvs t.vals)
  k : w.ownsRow 0 2 1 q.k t.keys.length (ints t.keys)
  u : w.ownsRow 0 2 1 q.u t.keys.length (ints t.under)
  sF : ∀ a k, (q.s a).ownBlock = some k → F k
structure RmW (w : World) (F : Nat → Prop) (p : Nat) (M : RM) (lv : Value) (qs : List RQ) : Prop where
  lt : ∀ k, F k → k < w.heap.size
  fp : F p
  arr : Arr w p 52 [lv, I M.frames, I M.limit, I M.used, I M.makes]
  len : qs.length = M.l.length
  row : w.ownsRow 0 77 6 lv M.l.length (rcs M.l qs)
  rowF : ∀ k, lv.ownBlock = some k → F k
  each : ∀ (i : Nat) (t : RT) (q : RQ), M.l[i]? = some t → qs[i]? = some q → RtW w F t q
  apart : ∀ (i j : Nat) (a b : Fin 3) (q r : RQ), qs[i]? = some q → qs[j]? = some r → (i ≠ j ∨ a ≠ b) → ∀ k, (q.s a).ownBlock = some k → (r.s b).ownBlock ≠ some k
theorem RtW.kinds {w : World} {F : Nat → Prop} {t : RT} {q : RQ} (h : RtW w F t q) (a : Fin 3) {k : Nat} (hk : (q.s a).ownBlock = some k) : ∃ cur e, w.heap[k]? = some (.cells cur e (0, 0)) ∧ (e = 30 ∨ e = 2) := by
  match a, hk with
  | 0, hk => obtain ⟨cur, hc⟩ := own_type h.v hk; exact ⟨cur, _, hc, .inl rfl⟩
  | 1, hk => obtain ⟨cur, hc⟩ := own_type h.k hk; exact ⟨cur, _, hc, .inr rfl⟩
  | 2, hk => obtain ⟨cur, hc⟩ := own_type h.u hk; exact ⟨cur, _, hc, .inr rfl⟩
theorem RtW.off {w : World} {F : Nat → Prop} {t : RT} {q : RQ} (h : RtW w F t q) {k e : Nat} {c : Array Value} {fr : Nat × Nat} (hk : w.heap[k]? = some (.cells c e fr)) (h30 : e ≠ 30) (h2 : e ≠ 2) : ∀ j a, (q.s a).ownBlock = some j → j ≠ k := by
  rintro j a e1 rfl
  obtain ⟨cur, e', hc, he⟩ := h.kinds a e1
  rw [hc] at hk
  cases hk
  rcases he with he | he
  · exact h30 he
  · exact h2 he
theorem RtW.kept {w w' : World} {F G : Nat → Prop} {t : RT} {q : RQ} (h : RtW w F t q) (hk : ∀ a k, (q.s a).ownBlock = some k → w'.heap[k]? = w.heap[k]?) (hG : ∀ a k, (q.s a).ownBlock = some k → G k) : RtW w' G t q :=
  ⟨own_kept h.v (fun k e => hk 0 k e), own_kept h.k (fun k e => hk 1 k e), own_kept h.u (fun k e => hk 2 k e), hG⟩
theorem RmW.kept {w w' : World} {F : Nat → Prop} {p : Nat} {M : RM} {lv : Value} {qs : List RQ} (h : RmW w F p M lv qs) (hk : ∀ k, F k → w'.heap[k]? = w.heap[k]?) (hs : w.heap.size ≤ w'.heap.size) : RmW w' F p M lv qs :=
  ⟨fun k hF => Nat.lt_of_lt_of_le (h.lt k hF) hs, h.fp, h.arr.block (hk p h.fp), h.len, own_kept h.row (fun k e => hk k (h.rowF k e)), h.rowF, fun i t q ht hq => (h.each i t q ht hq).kept (fun a k e => hk k ((h.each i t q ht hq).sF a k e)) (fun a k e => (h.each i t q ht hq).sF a k e), h.apart⟩
theorem RmW.below {w w' : World} {F : Nat → Prop} {p : Nat} {M : RM} {lv : Value} {qs : List RQ} (h : RmW w F p M lv qs) (hb : Below w.heap.size w w') : RmW w' F p M lv qs :=
  h.kept (fun k hF => hb.block k (h.lt k hF)) hb.size
theorem RmW.chg {w w' : World} {F G : Nat → Prop} {p : Nat} {M : RM} {lv : Value} {qs : List RQ} (h : RmW w F p M lv qs) (hc : Chg G w w') (hd : ∀ k, F k → ¬ G k) : RmW w' F p M lv qs :=
  h.kept (fun k hF => hc.block k (h.lt k hF) (hd k hF)) hc.size
theorem RmW.drewN {w : World} {F : Nat → Prop} {p : Nat} {M : RM} {lv : Value} {qs : List RQ} (h : RmW w F p M lv qs) (n : Nat) : RmW (w.drewN n) F p M lv qs := h.kept (fun _ _ => rfl) (Nat.le_refl _)
theorem RmW.drew {w : World} {F : Nat → Prop} {p : Nat} {M : RM} {lv : Value} {qs : List RQ} (h : RmW w F p M lv qs) : RmW w.drew F p M lv qs := h.kept (fun _ _ => rfl) (Nat.le_refl _)
theorem RmW.cell {w : World} {F : Nat → Prop} {p : Nat} {M : RM} {lv : Value} {qs : List RQ} (h : RmW w F p M lv qs) :
    w.cell? ⟨p, 0, none⟩ = some lv ∧ w.cell? ⟨p, 1, none⟩ = some (I M.frames) ∧ w.cell? ⟨p, 2, none⟩ = some (I M.limit) ∧ w.cell? ⟨p, 3, none⟩ = some (I M.used) ∧ w.cell? ⟨p, 4, none⟩ = some (I M.makes) :=
  ⟨h.arr.cell 0, h.arr.cell 1, h.arr.cell 2, h.arr.cell 3, h.arr.cell 4⟩
/-- A word of the memory itself is set. -/
theorem RmW.word {w : World} {F : Nat → Prop} {p : Nat} {M M' : RM} {lv : Value} {qs : List RQ} (h : RmW w F p M lv qs) (i : Nat) (v : Value) (ht : M'.l = M.l)
    (ha : ([lv, I M.frames, I M.limit, I M.used, I M.makes] : List Value).set i v = [lv, I M'.frames, I M'.limit, I M'.used, I M'.makes]) : RmW (w.setCell ⟨p, i, none⟩ v) F p M' lv qs := by
  have hkp : ∀ k, k ≠ p → (w.setCell ⟨p, i, none⟩ v).heap[k]? = w.heap[k]? := fun k hk => Below.heap_setCell _ _ _ _ hk
  refine ⟨fun k hk => by simpa using h.lt k hk, h.fp, by rw [← ha]; exact h.arr.set i v, by rw [ht]; exact h.len, ?_, h.rowF, fun j t q hj hq => ?_, h.apart⟩
  · rw [ht]
    exact own_kept h.row (fun k e => hkp k (by
      obtain ⟨cur, hc⟩ := own_type h.row e
      exact ne_type hc h.arr.out (by decide)))
  · rw [ht] at hj
    have hth := h.each j t q hj hq
    exact hth.kept (fun a k e => hkp k (hth.off h.arr.out (by decide) (by decide) k a e)) (fun a k e => hth.sF a k e)
/-- The words of a thing. -/
theorem RmW.thing {w : World} {F : Nat → Prop} {p : Nat} {M : RM} {lv : Value} {qs : List RQ} (h : RmW w F p M lv qs) {i : Nat} {t : RT} (ht : M.l[i]? = some t) :
    ∃ g cap q, lv = .slice (some ⟨g, 0, none⟩) M.l.length cap ∧ M.l.length ≤ cap ∧ cap ≤ 9223372036854775807 ∧ g < w.heap.size ∧ qs[i]? = some q ∧ RtW w F t q ∧
      w.cell? ⟨g, i * 6, none⟩ = some (I t.kind) ∧ w.cell? ⟨g, i * 6 + 1, none⟩ = some q.v ∧ w.cell? ⟨g, i * 6 + 2, none⟩ = some q.k ∧ w.cell? ⟨g, i * 6 + 3, none⟩ = some q.u ∧ w.cell? ⟨g, i * 6 + 4, none⟩ = some (I t.frame) ∧ w.cell? ⟨g, i * 6 + 5, none⟩ = some (.bool t.gone) ∧ ∀ j, w.frozen? ⟨g, j, none⟩ = false := by
  have hi : i < M.l.length := (List.getElem?_eq_some_iff.1 ht).1
  have hq : qs[i]? = some (qs[i]'(by rw [h.len]; exact hi)) := List.getElem?_eq_getElem _
  have hth := h.each i t _ ht hq
  have hto := h.row
  obtain ⟨g, cap, e, hg1, hg2⟩ := hto.form (by omega)
  subst e
  obtain ⟨A, c, e, h1, h2⟩ := (Rd.of_own hto).form
  cases e
  obtain ⟨cur, hcur⟩ := own_type hto (k := g) rfl
  have cl : ∀ (j : Nat) (u : Value), (rcs M.l qs)[j]? = some u → w.cell? ⟨g, j, none⟩ = some u := fun j u hu => by
    have := hto.cells (g := g) rfl j u hu
    rwa [add_plain', Nat.zero_add] at this
  have ra := rcs_at M.l qs i t _ ht hq
  exact ⟨g, cap, _, rfl, h1, h2, hg2, hq, hth, cl _ _ (ra 0 (by omega)), cl _ _ (ra 1 (by omega)), cl _ _ (ra 2 (by omega)), cl _ _ (ra 3 (by omega)), cl _ _ (ra 4 (by omega)), cl _ _ (ra 5 (by omega)), fun j => by simp [World.frozen?, hcur]⟩
/-- A call that changes a memory of the reference. -/
def RmRes (w : World) (F : Nat → Prop) (p : Nat) (X : RM) (v : Value) (e : Ending) (w' : World) : Prop :=
  ∃ F' lv' qs', e = .returned v ∧ RmW w' F' p X lv' qs' ∧ Chg F w w' ∧ ∀ k, F' k → F k ∨ w.heap.size ≤ k
/-- One thing is changed. -/
theorem RmW.change {w w' : World} {F F' : Nat → Prop} {p j g cap : Nat} {M : RM} {qs : List RQ} {t t' : RT} {q q' : RQ} (h : RmW w F p M (.slice (some ⟨g, 0, none⟩) M.l.length cap) qs)
    (hj : M.l[j]? = some t) (hq : qs[j]? = some q) (hT : RtW w' F' t' q')
    (hb : ∀ k, F k → k ≠ g → (∀ a, (q.s a).ownBlock ≠ some k) → w'.heap[k]? = w.heap[k]?) (hrow : w'.ownsRow 0 77 6 (.slice (some ⟨g, 0, none⟩) M.l.length cap) M.l.length (rcs (M.l.set j t') (qs.set j q')))
    (hF : ∀ k, F k → F' k) (hlt : ∀ k, F' k → k < w'.heap.size)
    (hq1 : ∀ a k, (q'.s a).ownBlock = some k → (q.s a).ownBlock = some k ∨ w.heap.size ≤ k) (hq2 : ∀ a b, a ≠ b → ∀ k, (q'.s a).ownBlock = some k → (q'.s b).ownBlock ≠ some k) :
    RmW w' F' p { M with l := M.l.set j t' } (.slice (some ⟨g, 0, none⟩) M.l.length cap) (qs.set j q') := by
  have hjq : j < qs.length := (List.getElem?_eq_some_iff.1 hq).1
  have hjm : j < M.l.length := (List.getElem?_eq_some_iff.1 hj).1
  have tq := h.each j t q hj hq
  obtain ⟨gc, hgc⟩ := own_type h.row (k := g) rfl
  have hp : p ≠ g := ne_type h.arr.out hgc (by decide)
  refine ⟨hlt, hF p h.fp, h.arr.block (hb p h.fp hp (fun a e => tq.off h.arr.out (by decide) (by decide) p a e rfl)), by simp [h.len], ?_, fun k e => hF k (h.rowF k e), fun i t1 q1 ht1 hq1' => ?_, fun i i2 a b q1 r1 h1 h2 hii => ?_⟩
  · simpa using hrow
  · by_cases hi : i = j
    · subst hi
      rw [List.getElem?_set_self (by simpa using hjm)] at ht1
      rw [List.getElem?_set_self hjq] at hq1'
      cases ht1; cases hq1'
      exact hT
    · simp only [] at ht1
      rw [List.getElem?_set_ne (fun e => hi e.symm)] at ht1
      rw [List.getElem?_set_ne (fun e => hi e.symm)] at hq1'
      have hth := h.each i t1 q1 ht1 hq1'
      exact hth.kept (fun a k he => hb k (hth.sF a k he) (hth.off hgc (by decide) (by decide) k a he) (fun b => h.apart i j a b q1 q hq1' hq (.inl hi) k he)) (fun a k he => hF k (hth.sF a k he))
  · have old : ∀ (i : Nat) (q1 : RQ), qs[i]? = some q1 → ∀ a k, (q1.s a).ownBlock = some k → k < w.heap.size := fun i q1 hq' a k hk => by
      have hi : i < M.l.length := by rw [← h.len]; exact (List.getElem?_eq_some_iff.1 hq').1
      exact h.lt k ((h.each i _ q1 (List.getElem?_eq_getElem hi) hq').sF a k hk)
    intro k e1 e2
    by_cases hi : i = j
    · subst hi
      rw [List.getElem?_set_self hjq] at h1
      cases h1
      by_cases hi2 : i2 = i
      · subst hi2
        rw [List.getElem?_set_self hjq] at h2
        cases h2
        rcases hii with hii | hii
        · exact hii rfl
        · exact hq2 a b hii k e1 e2
      · rw [List.getElem?_set_ne (fun e => hi2 e.symm)] at h2
        rcases hq1 a k e1 with e | e
        · exact h.apart i i2 a b q r1 hq h2 (.inl (fun e => hi2 e.symm)) k e e2
        · have := old i2 r1 h2 b k e2; omega
    · rw [List.getElem?_set_ne (fun e => hi e.symm)] at h1
      by_cases hi2 : i2 = j
      · subst hi2
        rw [List.getElem?_set_self hjq] at h2
        cases h2
        rcases hq1 b k e2 with e | e
        · exact h.apart i i2 a b q1 q h1 hq (.inl hi) k e1 e
        · have := old i q1 h1 a k e1; omega
      · rw [List.getElem?_set_ne (fun e => hi2 e.symm)] at h2
        exact h.apart i i2 a b q1 r1 h1 h2 hii k e1 e2
end Go.Proofs.Ytakpikoffbgjfaa
