import Derived.Test.YtacopdbldfgknaaDoorBase
import Derived.SizedLaws
import Derived.Deep.Slices
import Derived.OpenShut
import Derived.Carry
namespace Go.Proofs.YtacopdbldfgknaaDoor
open Go.ChangeShapes Go.WideShapes Go.ChangeAt Go.RowKit Go.Deep

theorem flat_get {α : Type} {enc : α → List Value} {sz : Nat} (hs : 0 < sz) (he : ∀ a, (enc a).length = sz) : ∀ (xs : List α) (j : Nat), (xs.flatMap enc)[j]? = (xs[j / sz]?).bind fun a => (enc a)[j % sz]? := by
  intro xs
  induction xs with
  | nil => intro j; simp
  | cons x l ih =>
    intro j
    rw [List.flatMap_cons]
    by_cases h : j < sz
    · rw [List.getElem?_append_left (by rw [he]; exact h), Nat.div_eq_of_lt h, Nat.mod_eq_of_lt h]; simp
    · have e1 : j / sz = (j - sz) / sz + 1 := Nat.div_eq_sub_div hs (by omega)
      have e2 : j % sz = (j - sz) % sz := Nat.mod_eq_sub_mod (by omega)
      rw [List.getElem?_append_right (by rw [he]; omega), he, ih, e1, e2, List.getElem?_cons_succ]
theorem flat_length {α : Type} {enc : α → List Value} {sz : Nat} (he : ∀ a, (enc a).length = sz) (xs : List α) : (xs.flatMap enc).length = xs.length * sz := by
  induction xs with
  | nil => simp
  | cons x l ih => rw [List.flatMap_cons, List.length_append, he, ih, List.length_cons, Nat.add_mul]; omega

section
variable {H : Type} {enc' : TypeId × Value → H} {P : Program} {W : World}
theorem open_rd {α : Type} [Inhabited α] (enc : α → List Value) (good : α → Prop) {sz t e : Nat} (hs : 0 < sz) (henc : ∀ a, (enc a).length = sz) (ht : P.underlying t = some (.slice e)) (hc : P.cellsOf e = sz)
    (hE : ∀ fuel cs x, DataW.trod enc' P W 0 (fun _ => true) true fuel e cs = some x → ∃ a, cs = enc a ∧ good a)
    {A : Option Addr} {len cap : Nat} {d : DataW H} {p : List MemPlace} (h : DataW.Trod enc' P W 0 (fun _ => true) true t (.slice A len cap) d p) :
    ∃ xs : List α, xs.length = len ∧ Rd W (.slice A len cap) len (xs.flatMap enc) ∧ (∀ a ∈ xs, good a) ∧ (len = 0 ∨ ∃ elems spare, d = .slice elems spare ∧ elems.length = len) := by
  obtain ⟨fuel, hf⟩ := h
  rcases open_slice ht hf with ⟨hcs, hx⟩ | ⟨a, l, c, m, n, D, Pl, hcs, _, hl, hm, hmm, hx, hel⟩
  · simp [Value.cells] at hcs
    obtain ⟨rfl, rfl, rfl⟩ := hcs
    exact ⟨[], rfl, Rd.nil _, by simp, .inl rfl⟩
  · simp [Value.cells] at hcs
    obtain ⟨rfl, rfl, rfl⟩ := hcs
    simp only [if_true] at hmm
    subst hmm
    have hmx : m ≤ 9223372036854775807 := by simp only [maxLen] at hm; omega
    rw [hc] at hel
    obtain ⟨f, hfx⟩ := choose_lt (α := α) (p := fun i b => good b ∧ ∀ j u, (enc b)[j]? = some u → W.cell? (a.add (i * sz + j)) = some u) (n := m) (fun i hi => by
      obtain ⟨cs', h1, h2⟩ := hel i hi
      obtain ⟨b, rfl, hg⟩ := hE _ _ _ h2
      obtain ⟨_, hlen, hcell⟩ := World.cells?_some h1
      refine ⟨b, hg, fun j u hu => ?_⟩
      have hj : j < sz := by rw [← henc b]; exact (List.getElem?_eq_some_iff.1 hu).1
      have := hcell j hj
      rw [add_add] at this
      rw [this]; exact hu)
    refine ⟨(List.range len).map f, by simp, ⟨some a, m, rfl, ⟨hl, hmx⟩, fun hpos => ?_⟩, fun b hb => ?_, ?_⟩
    · have hlen : 0 < len := by
        rcases Nat.eq_zero_or_pos len with h0 | h0
        · subst h0; simp at hpos
        · exact h0
      have h0 : ∃ u, (enc (f 0))[0]? = some u := ⟨(enc (f 0))[0]'(by rw [henc]; exact hs), List.getElem?_eq_getElem _⟩
      obtain ⟨u0, hu0⟩ := h0
      have hc0 := (hfx 0 (by omega)).2 0 u0 hu0
      obtain ⟨b, off, spot⟩ := a
      have hspot : spot = none := by simpa [Addr.add] using World.cell?_spot hc0
      subst hspot
      refine ⟨b, off, rfl, by simpa [Addr.add] using World.block_lt_of_cell? W _ hc0, fun j u hu => ?_⟩
      rw [flat_get hs henc] at hu
      obtain ⟨x, hx1, hx2⟩ := Option.bind_eq_some_iff.1 hu
      have hji : j / sz < len := by
        have := (List.getElem?_eq_some_iff.1 hx1).1
        simpa using this
      simp [hji] at hx1
      subst hx1
      have := (hfx (j / sz) (by omega)).2 _ _ hx2
      rwa [show j / sz * sz + j % sz = j from Nat.div_add_mod' j sz, add_plain'] at this
    · obtain ⟨i, hi, rfl⟩ := List.mem_map.1 hb
      exact (hfx i (by have := List.mem_range.1 hi; omega)).1
    · exact .inr ⟨_, _, (Prod.ext_iff.1 hx).1, by simp⟩

theorem open_ints_rd {t e : Nat} {k : IntKind} (ht : P.underlying t = some (.slice e)) (he : P.underlying e = some (.int k)) (hc : P.cellsOf e = 1)
    {A : Option Addr} {len cap : Nat} {d : DataW H} {p : List MemPlace} (h : DataW.Trod enc' P W 0 (fun _ => true) true t (.slice A len cap) d p) :
    ∃ xs : List Int, xs.length = len ∧ Rd W (.slice A len cap) len (xs.map (.int k)) ∧ (∀ a ∈ xs, (Lit.int k a).wf = true) ∧ (len = 0 ∨ ∃ elems spare, d = .slice elems spare ∧ elems.length = len) := by
  obtain ⟨xs, h1, h2, h3, h4⟩ := open_rd (sz := 1) (fun x : Int => [Value.int k x]) (fun a => (Lit.int k a).wf = true) (by omega) (fun _ => rfl) ht hc (fun fuel cs x hx => by
    obtain ⟨n, e1, _, e2⟩ := DataW.trod_int he hx
    exact ⟨n, e1, e2⟩) h
  refine ⟨xs, h1, ?_, h3, h4⟩
  have : xs.flatMap (fun x => [Value.int k x]) = xs.map (.int k) := by clear h1 h2 h3; induction xs <;> simp_all
  rwa [this] at h2

theorem open_pairs_rd {t e i : Nat} {k : IntKind} (ht : P.underlying t = some (.slice e)) (ha : P.underlying e = some (.array 2 i)) (hi : P.underlying i = some (.int k)) (hc : P.cellsOf e = 2) (hci : P.cellsOf i = 1)
    {A : Option Addr} {len cap : Nat} {d : DataW H} {p : List MemPlace} (h : DataW.Trod enc' P W 0 (fun _ => true) true t (.slice A len cap) d p) :
    ∃ xs : List (Int × Int), xs.length = len ∧ Rd W (.slice A len cap) len (xs.flatMap fun p => [.int k p.1, .int k p.2]) ∧ (∀ a ∈ xs, (Lit.int k a.1).wf = true ∧ (Lit.int k a.2).wf = true) ∧ (len = 0 ∨ ∃ elems spare, d = .slice elems spare ∧ elems.length = len) := by
  exact open_rd (sz := 2) (fun p : Int × Int => [Value.int k p.1, .int k p.2]) (fun a => (Lit.int k a.1).wf = true ∧ (Lit.int k a.2).wf = true) (by omega) (fun _ => rfl) ht hc (fun fuel cs x hx => by
    obtain ⟨ys, m, _, _, hl, hyl, hy⟩ := DataW.trod_array ha hx
    rw [hc] at hl
    rw [hci] at hy
    match cs, hl with
    | [c0, c1], _ =>
      match ys, hyl with
      | [y0, y1], _ =>
        have g0 := hy 0 (by omega)
        have g1 := hy 1 (by omega)
        simp at g0 g1
        obtain ⟨n0, e0, _, w0⟩ := DataW.trod_int hi g0
        obtain ⟨n1, e1, _, w1⟩ := DataW.trod_int hi g1
        simp at e0 e1
        subst e0 e1
        exact ⟨(n0, n1), rfl, w0, w1⟩) h
end
end Go.Proofs.YtacopdbldfgknaaDoor
