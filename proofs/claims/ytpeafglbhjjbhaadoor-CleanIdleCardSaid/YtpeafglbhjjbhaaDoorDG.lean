/- Deep words, seventh part: slices that are made, stores. -/
import Derived.Test.YtpeafglbhjjbhaaDoorDF
namespace Go.Proofs.YtpeafglbhjjbhaaDoor
open Go Go.RowKit

theorem flat_len {α : Type} {els : List (List α)} {s : Nat} (hl : ∀ c ∈ els, c.length = s) : els.flatten.length = els.length * s := by
  induction els with
  | nil => simp
  | cons c r ih => rw [List.flatten_cons, List.length_append, ih (fun c hc => hl c (by simp [hc])), hl c (by simp), List.length_cons, Nat.succ_mul]; omega
theorem flat_row {α : Type} {s : Nat} : ∀ {els : List (List α)}, (∀ c ∈ els, c.length = s) → ∀ (i o : Nat) (es : List α) (c : α), els[i]? = some es → es[o]? = some c → els.flatten[i * s + o]? = some c
  | [], _, i, o, es, c, h, _ => by simp at h
  | e :: r, hl, i, o, es, c, h, ho => by
    have he : e.length = s := hl e (by simp)
    cases i with
    | zero =>
      cases h
      have := (List.getElem?_eq_some_iff.1 ho).1
      rw [Nat.zero_mul, Nat.zero_add, List.flatten_cons, List.getElem?_append_left (by omega)]
      exact ho
    | succ i =>
      rw [List.flatten_cons, List.getElem?_append_right (by rw [he, Nat.succ_mul]; omega), he, show (i + 1) * s + o - s = i * s + o by rw [Nat.succ_mul]; omega]
      exact flat_row (fun c hc => hl c (by simp [hc])) i o es c (by simpa using h) ho
theorem rep_flat {α : Type} {l : List α} {s : Nat} (hl : l.length = s) : ∀ (m j : Nat), j < m * s → (List.replicate m l).flatten[j]? = l[j % s]?
  | 0, j, h => by omega
  | m + 1, j, h => by
    rw [List.replicate_succ, List.flatten_cons]
    by_cases hj : j < s
    · rw [List.getElem?_append_left (by omega), Nat.mod_eq_of_lt hj]
    · have h' : j < m * s + s := by rw [← Nat.succ_mul]; exact h
      rw [List.getElem?_append_right (by omega), hl, rep_flat hl m (j - s) (by omega), show j % s = (j - s) % s from Nat.mod_eq_sub_mod (by omega)]
theorem made_HL {w : World} {N : Nat → Prop} {bs : Bs} {z : Value} {zs : List Value} {s : Nat} (hz : z.cells.toList = zs) (hs : zs.length = s) (m : Nat) : HL w N bs (List.replicate m (zs.map CT.v)).flatten (madeCells z.cells (m * s)).toList := by
  have hl : ((List.replicate m (zs.map CT.v)).flatten).length = m * s := by
    rw [flat_len (s := s) (fun c hc => by rw [(List.mem_replicate.1 hc).2, List.length_map]; exact hs), List.length_replicate]
  refine ⟨by rw [hl]; simp [madeCells], fun j c u hc hu => ?_⟩
  have hj : j < m * s := by rw [← hl]; exact (List.getElem?_eq_some_iff.1 hc).1
  rw [rep_flat (s := s) (by rw [List.length_map]; exact hs) m j hj] at hc
  have hsp : 0 < s := by rcases Nat.eq_zero_or_pos s with h | h; · rw [h, Nat.mul_zero] at hj; omega
                         · exact h
  have hjs : j % s < zs.length := by rw [hs]; exact Nat.mod_lt _ hsp
  have hzsz : z.cells.size = s := by rw [← hs, ← hz]; simp
  have hu' : u = zs[j % s] := by
    have h1 : (madeCells z.cells (m * s)).toList[j]? = some (z.cells[j % z.cells.size]!) := by simp [madeCells, hj]
    rw [h1] at hu
    cases hu
    rw [hzsz]
    have h2 : j % s < z.cells.size := by rw [hzsz]; exact Nat.mod_lt _ hsp
    rw [getElem!_pos z.cells (j % s) h2]
    simp only [← hz, Array.getElem_toList]
  rw [List.getElem?_map, List.getElem?_eq_getElem hjs] at hc
  cases hc
  rw [hu']
  exact .v _
section
variable {F : Fence} {n : Nat} {P : Program} {X : Cx} {ops : Array Oper} {t : List (Nat × CT)} {r : List (Nat × Option Root)} {nx : Nat} [hF : Wd F] {dst ty : Nat} {pos : String} {af : Array Edge}
/-- A row that is known flat. -/
theorem rows_of_flat {w : World} {N : Nat → Prop} {bs : Bs} {els : List (List CT)} {s : Nat} {cur : Array Value} (hz : ∀ es ∈ els, es.length = s) (h : HL w N bs els.flatten cur.toList) (h1 : els.flatten.all CT.one = true) (i o : Nat) (es : List CT) (c : CT) (hi : els[i]? = some es) (ho : es[o]? = some c) :
    cur[i * s + o]? = some (cur.getD (i * s + o) undef) ∧ (cur.getD (i * s + o) undef).oneCell' = true ∧ HV w N bs NoB c (cur.getD (i * s + o) undef) := by
  have hf := flat_row hz i o es c hi ho
  have hlt : i * s + o < cur.toList.length := by rw [h.1]; exact (List.getElem?_eq_some_iff.1 hf).1
  have hlt' : i * s + o < cur.size := by simpa using hlt
  have e : cur.getD (i * s + o) undef = cur.toList[i * s + o] := by simp [hlt']
  have hu : cur.toList[i * s + o]? = some cur.toList[i * s + o] := List.getElem?_eq_getElem hlt
  rw [e]
  exact ⟨by simp [hlt'], h.one h1 _ (List.getElem_mem _), h.2 _ c _ hf hu⟩
theorem ref_new {w : World} {N : Nat → Prop} {bs : Bs} {k g cap m s : Nat} {o : Obj} (hm : m ≤ cap) (hc : cap ≤ 9223372036854775807) : HV (w.alloc o) N (upd bs k (some (some (g, 0, cap)))) NoB (.rf k 0 m s) (.slice (some ⟨g, 0, none⟩) m cap) := by
  have := HV.rf (w := w.alloc o) (N := N) (P := NoB) (r := k) (lo := 0) (n := m) (sz := s) (some ⟨g, 0, none⟩) g 0 cap (upd_same bs k _) (by omega) hc (fun _ => by simp)
  simpa using this
theorem l_bslice {T e s len : Nat} {ps : List (Nat × Operand)} {cs : List (Nat × CT)} {zs : List Value} {els : List (List CT)} (hT : SlI P T e s) (hz : ZtI P e zs) (hzs : zs.length = s) (hp : IsP ⟨t, r, nx⟩ ps cs)
    (hf : fillC (fun i => some (i * s, s)) (List.replicate len (zs.map CT.v)).flatten cs = some els.flatten) (hel : els.length = len) (hes : els.all (fun es => es.length == s) = true) (h1 : cs.all (fun p => (cellsC p.2).all CT.one) = true) (hlen : len * s ≤ 16777216) (hs : 0 < s) :
    Sg F n P X ops ⟨some dst, .buildSlice T len ps.toArray, ty, pos, af, none⟩ t r nx ⟨needP ps cs, []⟩ [nx * 64] ⟨[(dst, .rf (nx * 64) 0 len s)], [(nx * 64, some ⟨e, s, els⟩)]⟩ := by
  have hes' : ∀ es ∈ els, es.length = s := fun es h => by have := List.all_eq_true.1 hes es h; simpa using this
  refine sg_new (by simp) ⟨needP_ok hp, fun p hp => by cases hp⟩ hes' fun U S a w N bs FP hd hR => ?_
  obtain ⟨z, hz1, hz2, hz3⟩ := hz.z
  obtain ⟨hl, hag⟩ := needP_again hp hd.t
  have h0 : ((List.replicate len (zs.map CT.v)).flatten).all CT.one = true := by
    refine List.all_eq_true.2 fun c hc => ?_
    obtain ⟨l, hl, hc⟩ := List.mem_flatten.1 hc
    rw [(List.mem_replicate.1 hl).2] at hc
    exact List.all_eq_true.1 (zeros_one hz3) c hc
  obtain ⟨us, e1, e2, e3, e4⟩ := fill_ok (w := w) (N := N) (bs := bs) (place := fun i => some (i * s, s)) cs (ps.map fun p => (p.1, a.eval p.2)) _ els.flatten (madeCells z.cells (len * s)) (made_HL hz2 hzs len) h0 (by simp [hl])
    (fun j p v hj hv => by
      rw [List.getElem?_map] at hv
      cases hq : ps[j]? with
      | none => simp [hq] at hv
      | some q =>
        simp [hq] at hv
        subst hv
        obtain ⟨g1, g2⟩ := hag j p q hj hq
        exact ⟨g1, by have := hR.ev q.2; rw [g2] at this; exact this⟩)
    (fun p hp => List.all_eq_true.1 h1 p hp) hf
  have hls : len ≤ len * s := Nat.le_mul_of_pos_right _ hs
  have hl63 : len ≤ 9223372036854775807 := by omega
  refine ⟨.slice (some ⟨w.heap.size, 0, none⟩) len len, us, len, fun i o => us.getD (i * s + o) undef, ?_, ?_, by omega, hl63, rows_of_flat hes' e2 e3, ref_new (Nat.le_refl _) hl63⟩
  · have e1' : Instr.fill (fun i => some (i * s, s)) (Array.map (fun x => z.cells[x % z.cells.size]!) (Array.range (len * s))) (List.map (fun p => (p.1, a.eval p.2)) ps) = some us := e1
    have hle : ¬ 16777216 < len * s := by omega
    have hse : ∀ w, (sizeOf e).run P w = .ok s w := hT.sz
    by_cases h00 : len * s = 0
    · have e1'' : Instr.fill (fun i => some (i * s, s)) #[] (List.map (fun p => (p.1, a.eval p.2)) ps) = some us := by rw [← e1', h00, Array.range_zero', Array.map_empty]
      simp [execOp, Instr.buildSlice, run_underlying hT.u, hse, h00, newRow, Array.range_zero', e1'']
    · simp [execOp, Instr.buildSlice, run_underlying hT.u, hse, hle, h00, hz1, newRow, e1']
  · have := e2.1
    rw [flat_len hes', hel] at this
    simpa using this
/-! ### stores -/
theorem RelI.store {U : Nat → Prop} {S : St} {a : Act} {w w' : World} {N : Nat → Prop} {bs : Bs} {FP : Nat → Nat → Prop} (h : RelI X U S a w N bs FP) {k g off cap e sz i o : Nat} {els : List (List CT)} {es cs : List CT} {vs : List Value} {cur : Array Value} (hb : bs k = some (some (g, off, cap))) (hr : S.rt k = some ⟨e, sz, els⟩)
    (hi : els[i]? = some es) (ho : o + cs.length ≤ es.length) (hv : HL w N bs cs vs) (h1 : cs.all CT.one = true) (hh : w.heap[g]? = some (.cells cur e (0, 0))) (hc : Chd (· = g) w w') (hs : w'.heap.size = w.heap.size)
    (hh' : w'.heap[g]? = some (.cells (cur.toList.take (off + (i * sz + o)) ++ vs ++ cur.toList.drop (off + (i * sz + o) + vs.length)).toArray e (0, 0))) (d : Option Nat) :
    RelI X U (S.app ⟨tE d (.v undef), [(k, some ⟨e, sz, els.set i (setC es o cs)⟩)]⟩) a w' N bs FP ∨ d ≠ none := by
  cases d with
  | some d => exact .inr (by simp)
  | none =>
  left
  obtain ⟨cur0, us, Q, hg, hh0, hsz, hcap, hm, hz, hQ, hd, hw, hone, hvv⟩ := h.root hb hr
  rw [hh] at hh0
  cases hh0
  have hD : ∀ q, (q = g) → ∃ r, FP r q := fun q hq => ⟨k, by rw [hq]; exact hg⟩
  have hes : es.length = sz := hz es (List.mem_of_getElem? hi)
  have hil : i < els.length := (List.getElem?_eq_some_iff.1 hi).1
  have hvl : vs.length = cs.length := hv.1
  have hfit : off + (i * sz + o) + vs.length ≤ cur.size := by
    have : (i + 1) * sz ≤ cap * sz := Nat.mul_le_mul_right _ (by omega)
    rw [Nat.succ_mul] at this
    omega
  refine h.next hc hD (fun _ h => h) (fun q hq => by rw [hs]; exact h.n1 q hq) h.u (fun r q hq => by rw [hs]; exact h.f1 r q hq) h.f2 h.sz rfl (fun t => h.ts_next hc hD (fun _ h => h) (fun _ _ h => h) (h.ts t)) (fun r R hR => ?_) (fun r _ h => .inl ⟨r, h⟩) (fun _ h => h) (fun _ _ h => h)
  rw [St.rt_app] at hR
  by_cases hk : k = r
  · rw [if_pos hk] at hR
    cases hR
    subst hk
    refine ⟨_, hb, ?_⟩
    simp only [hdr, List.length_set]
    have hother : ∀ q, FP k q → q ≠ g → w'.heap[q]? = w.heap[q]? := fun q hq hne => hc.blk q (h.f1 k q hq).1 hne
    have hNs := h.same_N hc hD
    let inn : Nat → Nat → Prop := fun i' o' => i' = i ∧ o ≤ o' ∧ o' < o + cs.length
    refine .own g off _ cap _ (fun i' o' => if i' = i ∧ o ≤ o' ∧ o' < o + cs.length then vs.getD (o' - o) undef else us i' o') (fun i' o' q => if i' = i ∧ o ≤ o' ∧ o' < o + cs.length then False else Q i' o' q) (by simp) hg hh' (by simp; omega) (by simpa using hcap) hm ?_ ?_ ?_ ?_ ?_ ?_
    · intro es' he
      rcases List.mem_or_eq_of_mem_set he with he | he
      · exact hz es' he
      · rw [he, setC_len ho]; exact hes
    · intro i' o' q hq
      split at hq
      · exact hq.elim
      · exact hQ i' o' q hq
    · intro i1 o1 i2 o2 q h1 h2
      split at h1
      · exact h1.elim
      · split at h2
        · exact h2.elim
        · exact hd i1 o1 i2 o2 q h1 h2
    all_goals intro i' o' es' c' hi' ho'
    all_goals
      have hsplit : (i' = i ∧ es' = setC es o cs) ∨ (i' ≠ i ∧ els[i']? = some es') := by
        by_cases hii : i = i'
        · subst hii
          rw [List.getElem?_set_self hil] at hi'
          exact .inl ⟨rfl, (Option.some.inj hi').symm⟩
        · rw [List.getElem?_set_ne hii] at hi'
          exact .inr ⟨fun e => hii e.symm, hi'⟩
    · -- the cells
      have hpos : (cur.toList.take (off + (i * sz + o)) ++ vs ++ cur.toList.drop (off + (i * sz + o) + vs.length))[off + (i' * sz + o')]? = if off + (i * sz + o) ≤ off + (i' * sz + o') ∧ off + (i' * sz + o') < off + (i * sz + o) + vs.length then vs[off + (i' * sz + o') - (off + (i * sz + o))]? else cur[off + (i' * sz + o')]? := by
        by_cases q1 : off + (i' * sz + o') < off + (i * sz + o)
        · rw [if_neg (by omega), List.append_assoc, List.getElem?_append_left (by simp; omega), List.getElem?_take_of_lt q1, Array.getElem?_toList]
        · by_cases q2 : off + (i' * sz + o') < off + (i * sz + o) + vs.length
          · rw [if_pos ⟨by omega, q2⟩, List.append_assoc, List.getElem?_append_right (by simp; omega), List.getElem?_append_left (by simp; omega)]
            congr 1
            simp; omega
          · rw [if_neg (by omega), List.getElem?_append_right (by simp; omega), List.getElem?_drop, Array.getElem?_toList]
            congr 1
            simp; omega
      rw [List.getElem?_toArray, hpos]
      rcases hsplit with ⟨rfl, rfl⟩ | ⟨hne, hi0⟩
      · rw [setC_get ho] at ho'
        by_cases hin : o ≤ o' ∧ o' < o + cs.length
        · rw [if_pos (show off + (i' * sz + o) ≤ off + (i' * sz + o') ∧ off + (i' * sz + o') < off + (i' * sz + o) + vs.length by omega), if_pos ⟨rfl, hin⟩]
          rw [show off + (i' * sz + o') - (off + (i' * sz + o)) = o' - o by omega]
          have : o' - o < vs.length := by omega
          simp [this]
        · rw [if_neg hin] at ho'
          rw [if_neg (show ¬ (off + (i' * sz + o) ≤ off + (i' * sz + o') ∧ off + (i' * sz + o') < off + (i' * sz + o) + vs.length) by omega), if_neg (fun q => hin q.2)]
          exact hw i' o' es c' hi ho'
      · have ho'l : o' < sz := by rw [← hz es' (List.mem_of_getElem? hi0)]; exact (List.getElem?_eq_some_iff.1 ho').1
        have hfar : ¬ (off + (i * sz + o) ≤ off + (i' * sz + o') ∧ off + (i' * sz + o') < off + (i * sz + o) + vs.length) := by
          rintro ⟨q1, q2⟩
          rcases Nat.lt_or_gt_of_ne hne with hlt | hgt
          · have : (i' + 1) * sz ≤ i * sz := Nat.mul_le_mul_right _ hlt
            rw [Nat.succ_mul] at this
            omega
          · have : (i + 1) * sz ≤ i' * sz := Nat.mul_le_mul_right _ hgt
            rw [Nat.succ_mul] at this
            omega
        rw [if_neg hfar, if_neg (fun q => hne q.1)]
        exact hw i' o' es' c' hi0 ho'
    · rcases hsplit with ⟨rfl, rfl⟩ | ⟨hne, hi0⟩
      · rw [setC_get ho] at ho'
        by_cases hin : o ≤ o' ∧ o' < o + cs.length
        · rw [if_pos ⟨rfl, hin⟩]
          have hlt : o' - o < vs.length := by omega
          have : vs.getD (o' - o) undef = vs[o' - o] := by simp [hlt]
          rw [this]
          exact hv.one h1 _ (List.getElem_mem _)
        · rw [if_neg hin] at ho'
          rw [if_neg (fun q => hin q.2)]
          exact hone i' o' es c' hi ho'
      · rw [if_neg (fun q => hne q.1)]
        exact hone i' o' es' c' hi0 ho'
    · rcases hsplit with ⟨rfl, rfl⟩ | ⟨hne, hi0⟩
      · rw [setC_get ho] at ho'
        by_cases hin : o ≤ o' ∧ o' < o + cs.length
        · rw [if_pos hin] at ho'
          have hlt : o' - o < vs.length := by omega
          have e : vs.getD (o' - o) undef = vs[o' - o] := by simp [hlt]
          rw [if_pos ⟨rfl, hin⟩, e]
          have := hv.2 (o' - o) c' _ ho' (List.getElem?_eq_getElem hlt)
          exact (h.ts_next hc hD (fun _ h => h) (fun _ _ h => h) this).mono fun _ hq => hq.elim
        · rw [if_neg hin] at ho'
          rw [if_neg (fun q => hin q.2)]
          refine ((hvv i' o' es c' hi ho').frame (fun q hq => hother q (hQ i' o' q hq).1 (hQ i' o' q hq).2) hNs (fun _ h => h) (fun _ _ h => h)).mono fun q hq => ?_
          rw [if_neg (fun q => hin q.2)]
          exact hq
      · rw [if_neg (fun q => hne q.1)]
        refine ((hvv i' o' es' c' hi0 ho').frame (fun q hq => hother q (hQ i' o' q hq).1 (hQ i' o' q hq).2) hNs (fun _ h => h) (fun _ _ h => h)).mono fun q hq => ?_
        rw [if_neg (fun q => hne q.1)]
        exact hq
  · rw [if_neg hk] at hR
    exact h.rs_next hc hD (fun _ h => h) (fun _ _ h => h) hR fun q hq hf => hk (h.f2 k r q (by rw [hq]; exact hg) (hq ▸ hf))
end
end Go.Proofs.YtpeafglbhjjbhaaDoor

