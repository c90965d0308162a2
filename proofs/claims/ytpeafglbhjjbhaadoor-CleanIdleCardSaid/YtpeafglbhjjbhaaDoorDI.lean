/- Deep words, ninth part: appends. -/
import Derived.Test.YtpeafglbhjjbhaaDoorDH
namespace Go.Proofs.YtpeafglbhjjbhaaDoor
open Go Go.RowKit

def flatV (us : Nat → Nat → Value) (m sz : Nat) : List Value := (List.range (m * sz)).map fun j => us (j / sz) (j % sz)
theorem flatV_len (us : Nat → Nat → Value) (m sz : Nat) : (flatV us m sz).length = m * sz := by simp [flatV]
theorem flatV_at (us : Nat → Nat → Value) {m sz j : Nat} {u : Value} (h : (flatV us m sz)[j]? = some u) : j < m * sz ∧ j / sz < m ∧ j % sz < sz ∧ u = us (j / sz) (j % sz) := by
  have hj : j < m * sz := by rw [← flatV_len us]; exact (List.getElem?_eq_some_iff.1 h).1
  have hsz : 0 < sz := by
    rcases Nat.eq_zero_or_pos sz with e | e
    · rw [e, Nat.mul_zero] at hj; omega
    · exact e
  refine ⟨hj, Nat.div_lt_of_lt_mul (by rwa [Nat.mul_comm]), Nat.mod_lt _ hsz, ?_⟩
  simp [flatV, hj] at h
  exact h.symm
theorem flatV_get (us : Nat → Nat → Value) {m sz i o : Nat} (hi : i < m) (ho : o < sz) : (flatV us m sz)[i * sz + o]? = some (us i o) := by
  have hlt : i * sz + o < m * sz := by
    have : (i + 1) * sz ≤ m * sz := Nat.mul_le_mul_right _ hi
    rw [Nat.succ_mul] at this
    omega
  have e1 : (i * sz + o) / sz = i := by rw [Nat.mul_comm, Nat.mul_add_div (by omega), Nat.div_eq_of_lt ho]; omega
  have e2 : (i * sz + o) % sz = o := by rw [Nat.mul_comm, Nat.mul_add_mod, Nat.mod_eq_of_lt ho]
  simp [flatV, hlt, e1, e2]
/-- What is appended. -/
structure Src (w : World) (N : Nat → Prop) (bs : Bs) (FP2 : Nat → Prop) (sz : Nat) (u : Value) (nls : List (List CT)) : Prop where
  out : ∃ (A : Option Addr) (m c : Nat) (us : Nat → Nat → Value) (Q : Nat → Nat → Nat → Prop), u = .slice A m c ∧ nls.length = m ∧ (∀ es ∈ nls, es.length = sz) ∧
    (nls ≠ [] → ∃ b off, A = some ⟨b, off, none⟩ ∧ ∀ i o es c, nls[i]? = some es → es[o]? = some c → w.cell? ⟨b, off + (i * sz + o), none⟩ = some (us i o)) ∧
    (∀ i o es c, nls[i]? = some es → es[o]? = some c → (us i o).oneCell' = true ∧ HV w N bs (Q i o) c (us i o)) ∧ (∀ i o q, Q i o q → FP2 q) ∧ (∀ i o i' o' k, Q i o k → Q i' o' k → i = i' ∧ o = o')
section
variable {w : World} {N : Nat → Prop} {bs : Bs}
theorem Src.nil (FP2 : Nat → Prop) (sz : Nat) : Src w N bs FP2 sz (.slice none 0 0) [] :=
  ⟨none, 0, 0, fun _ _ => undef, fun _ _ _ => False, rfl, rfl, by simp, fun h => absurd rfl h, fun i o es c h => by simp at h, fun _ _ _ h => h.elim, fun _ _ _ _ _ h => h.elim⟩
theorem Src.ro {e sz : Nat} {els : List (List CT)} {u : Value} (h : RD w N (.sl e sz els) u) : Src w N bs NoB sz u (els.map (List.map roC)) := by
  cases h with
  | sl A b off m cap us hn hA hc hm hz hw h1 hr =>
    have hel : ∀ i o es c, (els.map (List.map roC))[i]? = some es → es[o]? = some c → ∃ es0 c0, els[i]? = some es0 ∧ es0[o]? = some c0 ∧ c = roC c0 := fun i o es c hi ho => by
      rw [List.getElem?_map] at hi
      cases he : els[i]? with
      | none => simp [he] at hi
      | some es0 =>
        simp [he] at hi
        subst hi
        rw [List.getElem?_map] at ho
        cases hc0 : es0[o]? with
        | none => simp [hc0] at ho
        | some c0 => simp [hc0] at ho; exact ⟨es0, c0, he, hc0, ho.symm⟩
    refine ⟨A, m, cap, us, fun _ _ _ => False, rfl, by simpa using hn, ?_, ?_, ?_, fun _ _ _ h => h.elim, fun _ _ _ _ _ h => h.elim⟩
    · intro es he
      obtain ⟨es0, h0, rfl⟩ := List.mem_map.1 he
      rw [List.length_map]; exact hz es0 h0
    · intro hne
      obtain ⟨rfl, hN⟩ := hA (fun e => hne (by rw [e]; rfl))
      exact ⟨b, off, rfl, fun i o es c hi ho => by
        obtain ⟨es0, c0, g1, g2, _⟩ := hel i o es c hi ho
        exact hw i o es0 c0 g1 g2⟩
    · intro i o es c hi ho
      obtain ⟨es0, c0, g1, g2, rfl⟩ := hel i o es c hi ho
      exact ⟨h1 i o es0 c0 g1 g2, (hr i o es0 c0 g1 g2).roC⟩
/-- A part of a root's elements. -/
theorem cut_at {α : Type} {els : List α} {lo m i : Nat} {x : α} (h : ((els.drop lo).take m)[i]? = some x) : i < m ∧ els[lo + i]? = some x := by
  have hi : i < m := by have := (List.getElem?_eq_some_iff.1 h).1; rw [List.length_take] at this; omega
  rw [List.getElem?_take_of_lt hi, List.getElem?_drop] at h
  exact ⟨hi, h⟩
theorem Src.root {X : Cx} {U : Nat → Prop} {S : St} {a : Act} {FP : Nat → Nat → Prop} (h : RelI X U S a w N bs FP) {k lo m sz e : Nat} {els : List (List CT)} {u : Value} (hr : S.rt k = some ⟨e, sz, els⟩) (hu : HV w N bs NoB (.rf k lo m sz) u) (hle : lo + m ≤ els.length) : Src w N bs (FP k) sz u ((els.drop lo).take m) := by
  cases hu with
  | rfNil hb =>
    refine ⟨none, 0, 0, fun _ _ => undef, fun _ _ _ => False, rfl, by simp, by simp, fun h => absurd (by simp) h, fun i o es c h => by simp at h, fun _ _ _ h => h.elim, fun _ _ _ _ _ h => h.elim⟩
  | rf A g off cap hb hn hm hA =>
    obtain ⟨cur, us, Q, hg, hh, hs, hc, hm', hz, hQ, hd, hw, h1, hv⟩ := h.root hb hr
    refine ⟨A, m, cap - lo, fun i o => us (lo + i) o, fun i o q => Q (lo + i) o q, rfl, by simp; omega, fun es he => hz es (List.mem_of_mem_drop (List.mem_of_mem_take he)), ?_, ?_, fun i o q hq => (hQ _ o q hq).1, fun i o i' o' q h1 h2 => by
      obtain ⟨e1, e2⟩ := hd _ _ _ _ q h1 h2
      exact ⟨by omega, e2⟩⟩
    · intro hne
      have hm0 : 0 < m := by
        rcases Nat.eq_zero_or_pos m with e | e
        · exact absurd (by simp [e]) hne
        · exact e
      refine ⟨g, off + lo * sz, hA (by omega), fun i o es c hi ho => ?_⟩
      obtain ⟨him, hi⟩ := cut_at hi
      have := hw (lo + i) o es c hi ho
      simp only [World.cell?, hh]
      rw [Nat.add_mul] at this
      simpa [Nat.add_assoc] using this
    · intro i o es c hi ho
      obtain ⟨him, hi⟩ := cut_at hi
      exact ⟨h1 _ o es c hi ho, hv _ o es c hi ho⟩
/-- The same, where all may be copied. -/
theorem Src.copy {FP2 FP3 : Nat → Prop} {sz : Nat} {u : Value} {nls : List (List CT)} (h : Src w N bs FP2 sz u nls) (hc : ∀ es ∈ nls, ∀ c ∈ es, c.cp = true) : Src w N bs FP3 sz u nls := by
  obtain ⟨A, m, c, us, Q, h1, h2, h3, h4, h5, h6, h7⟩ := h.out
  exact ⟨A, m, c, us, fun _ _ _ => False, h1, h2, h3, h4, fun i o es c hi ho => ⟨(h5 i o es c hi ho).1, (h5 i o es c hi ho).2.cp (hc es (List.mem_of_getElem? hi) c (List.mem_of_getElem? ho))⟩, fun _ _ _ h => h.elim, fun _ _ _ _ _ h => h.elim⟩
end
/-! ### the builtin -/
section
variable {P : Program} (w : World)
theorem run_app_room (t ty e : TypeId) (i : TypeInfo) (ht : P.underlying t = some (.slice e)) (hi : P.info? e = some i) (g o0 sLen sCap : Nat) (cur : Array Value) (hg : w.heap[g]? = some (.cells cur e (0, 0)))
    (a : Addr) (m c : Nat) (news : List Value) (hl : news.length = m * i.size) (hnews : ∀ j u, news[j]? = some u → w.cell? (a.add j) = some u) (h1 : ∀ u ∈ news, u.oneCell' = true) (hroom : sLen + m ≤ sCap) (hfit : o0 + sLen * i.size + news.length ≤ cur.size) :
    (Builtin.append_ #[t, t] ty #[.slice (some ⟨g, o0, none⟩) sLen sCap, .slice (some a) m c]).run P w =
      .ok (.slice (some ⟨g, o0, none⟩) (sLen + m) sCap) (w.setRow g (cur.toList.take (o0 + sLen * i.size) ++ news ++ cur.toList.drop (o0 + sLen * i.size + news.length)).toArray) := by
  have hf := run_firstCells_some (P := P) w i.size m a m c news hl hnews
  have hst := run_storeCells_at P g (o0 + sLen * i.size) e news 0 cur w hg (by simpa using hfit) h1
  simp only [Nat.add_zero] at hst
  simp [Builtin.append_, run_underlying ht, sizeOf, typeInfo, hi, Builtin.lenOf, hroom, hf, Addr.add_lit, hst]
theorem run_app_none (t ty e : TypeId) (i : TypeInfo) (ht : P.underlying t = some (.slice e)) (hi : P.info? e = some i) (A : Option Addr) (sLen sCap c : Nat) (hc : sLen ≤ sCap) :
    (Builtin.append_ #[t, t] ty #[.slice A sLen sCap, .slice none 0 c]).run P w = .ok (.slice A sLen sCap) w := by
  cases A <;> simp [Builtin.append_, run_underlying ht, sizeOf, typeInfo, hi, Builtin.lenOf, Builtin.firstCells, hc, storeCells]
theorem run_app_empty (t ty e : TypeId) (i : TypeInfo) (ht : P.underlying t = some (.slice e)) (hi : P.info? e = some i) (A : Option Addr) (a : Addr) (sLen sCap c : Nat) (hc : sLen ≤ sCap) :
    (Builtin.append_ #[t, t] ty #[.slice A sLen sCap, .slice (some a) 0 c]).run P w = .ok (.slice A sLen sCap) w := by
  cases A <;> simp [Builtin.append_, run_underlying ht, sizeOf, typeInfo, hi, Builtin.lenOf, Builtin.firstCells, hc, storeCells, loadCells, loadCellsFrom]
end
/-! ### what an append leaves -/
section
variable {X : Cx} {U : Nat → Prop} {S : St} {a : Act} {w : World} {N : Nat → Prop} {bs : Bs} {FP : Nat → Nat → Prop} {P : Program}
/-- A row that has grown into a new block. -/
theorem RelI.grown (h : RelI X U S a w N bs FP) {d : Option Nat} (hdn : ∀ k, d = some k → k < X.nt) {key : Nat} (hk : ¬ U key) (kl : List Nat) {e sz m cap : Nat} {els0 nls : List (List CT)} (us1 us2 : Nat → Nat → Value) (Q1 Q2 : Nat → Nat → Nat → Prop) {z : Array Value} (hzs : z.size = sz) (hm : els0.length = m) (hcap : m + nls.length ≤ cap) (h63 : cap ≤ 9223372036854775807)
    (hz0 : ∀ es ∈ els0, es.length = sz) (hz1 : ∀ es ∈ nls, es.length = sz) (hQ1 : ∀ i o q, Q1 i o q → ∃ k ∈ kl, FP k q) (hQ2 : ∀ i o q, Q2 i o q → ∃ k ∈ kl, FP k q) (hd1 : ∀ i o i' o' k, Q1 i o k → Q1 i' o' k → i = i' ∧ o = o') (hd2 : ∀ i o i' o' k, Q2 i o k → Q2 i' o' k → i = i' ∧ o = o') (hdd : ∀ i o i' o' k, Q1 i o k → ¬ Q2 i' o' k)
    (hw1 : ∀ i o es c, els0[i]? = some es → es[o]? = some c → (us1 i o).oneCell' = true ∧ HV w N bs (Q1 i o) c (us1 i o)) (hw2 : ∀ i o es c, nls[i]? = some es → es[o]? = some c → (us2 i o).oneCell' = true ∧ HV w N bs (Q2 i o) c (us2 i o)) :
    ∃ N' bs' FP', RelI X (fun r => U r ∨ r ∈ [key]) (S.app ⟨tE d (.rf key 0 (m + nls.length) sz), (key, some ⟨e, sz, els0 ++ nls⟩) :: noneR kl⟩) (a.put d (.slice (some ⟨w.heap.size, 0, none⟩) (m + nls.length) cap))
      (w.drew.alloc (.cells ((flatV us1 m sz).toArray ++ (flatV us2 nls.length sz).toArray ++ Builtin.zeroCells z (cap - (m + nls.length))) e)) N' bs' FP' := by
  have hbk : bs key = none := by
    cases hb : bs key with
    | none => rfl
    | some x => exact absurd (h.u key (by rw [hb]; simp)) hk
  have hbs : ∀ r x, bs r = some x → upd bs key (some (some (w.heap.size, 0, cap))) r = some x := fun r x hx => by
    by_cases e : r = key
    · subst e; rw [hbk] at hx; cases hx
    · rw [upd_ne _ _ e]; exact hx
  have hcd : Chd NoB w (w.drew.alloc (.cells ((flatV us1 m sz).toArray ++ (flatV us2 nls.length sz).toArray ++ Builtin.zeroCells z (cap - (m + nls.length))) e)) := (Chd.drew _ _).trans (Chd.alloc _ _ _)
  have hD : ∀ k, NoB k → ∃ r, FP r k := fun _ h => h.elim
  refine ⟨N, _, _, h.take (d := d) hdn hk kl hcd (fun _ h => h.elim) (FPk := fun q => q = w.heap.size ∨ ∃ k ∈ kl, FP k q) (b := some (w.heap.size, 0, cap)) ?_ ?_ ?_⟩
  · intro q hq
    rcases hq with e | hq
    · exact .inr (by rw [e]; simp)
    · exact .inl hq
  · have hlow : ∀ q, (∃ k ∈ kl, FP k q) → q ≠ w.heap.size := fun q ⟨k, _, hk⟩ e => by have := (h.f1 k q hk).1; omega
    have hlen : (hdr (some (w.heap.size, 0, cap)) (els0 ++ nls).length) = .slice (some ⟨w.heap.size, 0, none⟩) (m + nls.length) cap := by simp [hdr, hm]
    rw [hlen]
    have hl1 := flatV_len us1 m sz
    have hl2 := flatV_len us2 nls.length sz
    refine HV.rows2 (w := w) (bs := bs) us1 us2 Q1 Q2 hm (.inl rfl) (heap_alloc_new w.drew _) ?_ hcap h63 hz0 hz1 (fun i o q hq => ⟨.inr (hQ1 i o q hq), hlow q (hQ1 i o q hq)⟩) (fun i o q hq => ⟨.inr (hQ2 i o q hq), hlow q (hQ2 i o q hq)⟩) hd1 hd2 hdd ?_ ?_ ?_
    · simp only [Array.size_append, List.size_toArray, size_zeroCells, hzs, hl1, hl2, Nat.zero_add, ← Nat.add_mul]
      congr 1
      omega
    · intro i o es c hi ho
      obtain ⟨g1, g2⟩ := hw1 i o es c hi ho
      have him : i < m := by rw [← hm]; exact (List.getElem?_eq_some_iff.1 hi).1
      have hos : o < sz := by rw [← hz0 es (List.mem_of_getElem? hi)]; exact (List.getElem?_eq_some_iff.1 ho).1
      refine ⟨?_, g1, g2⟩
      have hf := flatV_get us1 him hos
      have hlt := (List.getElem?_eq_some_iff.1 hf).1
      rw [Nat.zero_add, Array.append_assoc, Array.getElem?_append_left (by simpa using hlt)]
      simpa using hf
    · intro i o es c hi ho
      obtain ⟨g1, g2⟩ := hw2 i o es c hi ho
      have him : i < nls.length := (List.getElem?_eq_some_iff.1 hi).1
      have hos : o < sz := by rw [← hz1 es (List.mem_of_getElem? hi)]; exact (List.getElem?_eq_some_iff.1 ho).1
      refine ⟨?_, g1, g2⟩
      have hf := flatV_get us2 him hos
      have hlt := (List.getElem?_eq_some_iff.1 hf).1
      rw [Nat.zero_add, Array.append_assoc, Array.getElem?_append_right (by simp [hl1, Nat.add_mul]; omega), show (m + i) * sz + o - (flatV us1 m sz).toArray.size = i * sz + o by simp [hl1, Nat.add_mul]; omega, Array.getElem?_append_left (by simpa using hlt)]
      simpa using hf
    · intro P' c u hP hv
      exact hv.frame (fun q hq => hcd.blk q (by
        rcases (hP q hq).1 with e | ⟨k, _, hk⟩
        · exact absurd e (hP q hq).2
        · exact (h.f1 k q hk).1) (fun h => h)) (h.same_N hcd hD) (fun _ h => h) hbs
  · have := HV.rf (w := w.drew.alloc (.cells ((flatV us1 m sz).toArray ++ (flatV us2 nls.length sz).toArray ++ Builtin.zeroCells z (cap - (m + nls.length))) e)) (N := N) (P := NoB) (r := key) (lo := 0) (n := m + nls.length) (sz := sz) (some ⟨w.heap.size, 0, none⟩) w.heap.size 0 cap (upd_same bs key _) (by omega) h63 (fun _ => by simp)
    simpa using this
/-- A row that has grown in its place, or that is as it was. -/
theorem RelI.inplace (h : RelI X U S a w N bs FP) {d : Option Nat} (hdn : ∀ k, d = some k → k < X.nt) {key : Nat} (hk : ¬ U key) {k g off cap : Nat} (kl : List Nat) (hkl : k ∈ kl) {e sz lo m : Nat} {els nls : List (List CT)} {cur cur' : Array Value} {w' : World} (us2 : Nat → Nat → Value) (Q2 : Nat → Nat → Nat → Prop) (hb : bs k = some (some (g, off, cap))) (hr : S.rt k = some ⟨e, sz, els⟩) (hle : lo + m ≤ els.length)
    (hcap : lo + m + nls.length ≤ cap) (hz1 : ∀ es ∈ nls, es.length = sz) (hQ2 : ∀ i o q, Q2 i o q → (∃ k ∈ kl, FP k q) ∧ ¬ FP k q) (hd2 : ∀ i o i' o' k, Q2 i o k → Q2 i' o' k → i = i' ∧ o = o') (hw2 : ∀ i o es c, nls[i]? = some es → es[o]? = some c → (us2 i o).oneCell' = true ∧ HV w N bs (Q2 i o) c (us2 i o))
    (hh0 : w.heap[g]? = some (.cells cur e (0, 0))) (hh : w'.heap[g]? = some (.cells cur' e (0, 0))) (hsz : cur'.size = cur.size) (hc : Chd (· = g) w w') (hold : ∀ j, j < off + (lo + m) * sz → cur'[j]? = cur[j]?) (hnew : ∀ i o, i < nls.length → o < sz → cur'[off + ((lo + m + i) * sz + o)]? = some (us2 i o)) :
    ∃ N' bs' FP', RelI X (fun r => U r ∨ r ∈ [key]) (S.app ⟨tE d (.rf key 0 (m + nls.length) sz), (key, some ⟨e, sz, (els.drop lo).take m ++ nls⟩) :: noneR kl⟩) (a.put d (.slice (some ⟨g, off + lo * sz, none⟩) (m + nls.length) (cap - lo))) w' N' bs' FP' := by
  obtain ⟨cur0, us, Q, hg, hh1, hs, hcl, h63, hz, hQ, hdj, hw, h1, hv⟩ := h.root hb hr
  rw [hh0] at hh1
  cases hh1
  have hbk : bs key = none := by
    cases hb : bs key with
    | none => rfl
    | some x => exact absurd (h.u key (by rw [hb]; simp)) hk
  have hbs : ∀ r x, bs r = some x → upd bs key (some (some (g, off + lo * sz, cap - lo))) r = some x := fun r x hx => by
    by_cases e : r = key
    · subst e; rw [hbk] at hx; cases hx
    · rw [upd_ne _ _ e]; exact hx
  have hD : ∀ q, q = g → ∃ k ∈ kl, FP k q := fun q hq => ⟨k, hkl, hq ▸ hg⟩
  have hD' : ∀ q, q = g → ∃ r, FP r q := fun q hq => ⟨k, hq ▸ hg⟩
  have hlc : lo ≤ cap := by omega
  refine ⟨N, _, _, h.take (d := d) hdn hk kl hc hD (FPk := fun q => ∃ k ∈ kl, FP k q) (b := some (g, off + lo * sz, cap - lo)) (fun q hq => .inl hq) ?_ ?_⟩
  · have hm : ((els.drop lo).take m).length = m := by simp; omega
    have hlen : (hdr (some (g, off + lo * sz, cap - lo)) ((els.drop lo).take m ++ nls).length) = .slice (some ⟨g, off + lo * sz, none⟩) (m + nls.length) (cap - lo) := by simp only [hdr, List.length_append, hm]
    rw [hlen]
    refine HV.rows2 (w := w) (bs := bs) (fun i o => us (lo + i) o) us2 (fun i o q => Q (lo + i) o q) Q2 hm (hD g rfl) hh ?_ (by omega) (by omega) (fun es he => hz es (List.mem_of_mem_drop (List.mem_of_mem_take he))) hz1 (fun i o q hq => ⟨⟨k, hkl, (hQ _ o q hq).1⟩, (hQ _ o q hq).2⟩)
      (fun i o q hq => ⟨(hQ2 i o q hq).1, fun e => (hQ2 i o q hq).2 (e ▸ hg)⟩) (fun i o i' o' q h1 h2 => by
        obtain ⟨e1, e2⟩ := hdj _ _ _ _ q h1 h2
        exact ⟨by omega, e2⟩) hd2 (fun i o i' o' q h1 h2 => (hQ2 i' o' q h2).2 (hQ _ o q h1).1) ?_ ?_ ?_
    · rw [hsz, hs]
      have : cap * sz = lo * sz + (cap - lo) * sz := by rw [← Nat.add_mul]; congr 1; omega
      show off + cap * sz = off + lo * sz + (cap - lo) * sz
      omega
    · intro i o es c hi ho
      obtain ⟨him, hi⟩ := cut_at hi
      refine ⟨?_, h1 _ o es c hi ho, hv _ o es c hi ho⟩
      have hos : o < sz := by rw [← hz es (List.mem_of_getElem? hi)]; exact (List.getElem?_eq_some_iff.1 ho).1
      have e1 := hw (lo + i) o es c hi ho
      have e2 : off + lo * sz + (i * sz + o) = off + ((lo + i) * sz + o) := by rw [Nat.add_mul]; omega
      rw [e2, hold _ ?_]
      · exact e1
      · have : (lo + i + 1) * sz ≤ (lo + m) * sz := Nat.mul_le_mul_right _ (by omega)
        rw [Nat.succ_mul] at this
        omega
    · intro i o es c hi ho
      obtain ⟨g1, g2⟩ := hw2 i o es c hi ho
      have him : i < nls.length := (List.getElem?_eq_some_iff.1 hi).1
      have hos : o < sz := by rw [← hz1 es (List.mem_of_getElem? hi)]; exact (List.getElem?_eq_some_iff.1 ho).1
      refine ⟨?_, g1, g2⟩
      have e2 : off + lo * sz + ((m + i) * sz + o) = off + ((lo + m + i) * sz + o) := by rw [show lo + m + i = lo + (m + i) by omega, Nat.add_mul lo]; omega
      rw [e2]
      exact hnew i o him hos
    · intro P' c u hP hv
      exact hv.frame (fun q hq => hc.blk q (by
        obtain ⟨k, _, hk⟩ := (hP q hq).1
        exact (h.f1 k q hk).1) (hP q hq).2) (h.same_N hc hD') (fun _ h => h) hbs
  · have := HV.rf (w := w') (N := N) (P := NoB) (r := key) (lo := 0) (n := m + nls.length) (sz := sz) (some ⟨g, off + lo * sz, none⟩) g (off + lo * sz) (cap - lo) (upd_same bs key _) (by omega) (by omega) (fun _ => by simp)
    simpa using this
end
end Go.Proofs.YtpeafglbhjjbhaaDoor

