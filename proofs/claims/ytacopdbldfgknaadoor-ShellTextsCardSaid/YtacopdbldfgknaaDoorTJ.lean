/- What is handed in, opened: a program out of its reading (printed by wip/mk_tj.py). -/
import Derived.Test.YtacopdbldfgknaaDoorTY
import Derived.Deep.Slices
import Derived.SizedLaws
import Derived.ChangeArms
namespace Go.Proofs.YtacopdbldfgknaaDoor
set_option maxRecDepth 100000
open Go Go.RowKit Go.Deep Go.ChangeShapes PShellTexts YtacopdbldfgknaaDoorW.PrintWords YtacopdbldfgknaaDoorW.PrintMore YtacopdbldfgknaaDoorW.PrintLast

/-- Each string and slice in d is within the form's reach. -/
def Fit {H : Type} (t : TypeId) (d : DataW H) : Prop := ∀ n ∈ d.weights Tryd.prog t, n ≤ reachBytes
theorem reach_eq : reachBytes = 140737488351232 := rfl
section
variable {H : Type} {enc' : TypeId × Value → H} {W : World}
theorem weights_all {e : TypeId} : ∀ {ds : List (DataW H)} {j : Nat} {d : DataW H}, ds[j]? = some d → ∀ n ∈ d.weights Tryd.prog e, n ∈ DataW.weightsAll Tryd.prog e ds
  | d0 :: ds, 0, d, hd, n, hn => by
    simp only [List.getElem?_cons_zero, Option.some.injEq] at hd
    subst hd
    simp only [DataW.weightsAll, List.mem_append]
    exact .inl hn
  | d0 :: ds, j + 1, d, hd, n, hn => by
    simp only [List.getElem?_cons_succ] at hd
    simp only [DataW.weightsAll, List.mem_append]
    exact .inr (weights_all hd n hn)
  | [], _, _, hd, _, _ => by simp at hd
theorem fit_field {t : TypeId} {fs : Array Field} {parts : List (DataW H)} (ht : Tryd.prog.underlying t = some (.struct fs)) (h : Fit t (.agg parts : DataW H)) {i : Nat} {f : TypeId} {d : DataW H} (hf : (fs.toList.map (·.type))[i]? = some f) (hd : parts[i]? = some d) : Fit f d :=
  fun n hn => h n (by simp only [DataW.weights, ht]; exact DataW.weights_mem_each hf hd n hn)
theorem fit_elem {t e : TypeId} {elems spare : List (DataW H)} (ht : Tryd.prog.underlying t = some (.slice e)) (h : Fit t (.slice elems spare : DataW H)) {i : Nat} {d : DataW H} (hd : elems[i]? = some d) : Fit e d :=
  fun n hn => h n (by simp only [DataW.weights, ht, List.mem_cons, List.mem_append]; exact .inr (.inl (weights_all hd n hn)))
theorem fit_len {t e : TypeId} {elems spare : List (DataW H)} (ht : Tryd.prog.underlying t = some (.slice e)) (h : Fit t (.slice elems spare : DataW H)) (hb : 1 ≤ Tryd.prog.bytesOf e) : elems.length ≤ reachBytes := by
  have h1 := h ((elems.length + spare.length) * Tryd.prog.bytesOf e) (by simp only [DataW.weights, ht]; exact List.mem_cons_self)
  have h2 : (elems.length + spare.length) * 1 ≤ (elems.length + spare.length) * Tryd.prog.bytesOf e := Nat.mul_le_mul_left _ hb
  omega
theorem open_C {α : Type} [Inhabited α] (kd : Kd α) (good : α → Prop) {t e : TypeId} (ht : Tryd.prog.underlying t = some (.slice e)) (hc : Tryd.prog.cellsOf e = kd.sz) (nb : Nat) (hnb : Tryd.prog.bytesOf e = nb) (hb1 : 1 ≤ nb)
    (hE : ∀ fuel cs (x : DataW H × List MemPlace), DataW.trod enc' Tryd.prog W 0 (fun _ => true) true fuel e cs = some x → Fit e x.1 → ∃ a, kd.K W a cs ∧ good a)
    {fuel : Nat} {cs : List Value} {x : DataW H × List MemPlace} (h : DataW.trod enc' Tryd.prog W 0 (fun _ => true) true fuel t cs = some x) (hf : Fit t x.1) :
    ∃ (xs : List α) (A : Option Addr) (c : Nat), cs = [.slice A xs.length c] ∧ xs.length ≤ c ∧ kd.C W A xs.length xs ∧ xs.length ≤ reachBytes ∧ ∀ a ∈ xs, good a := by
  rcases open_slice ht h with ⟨rfl, rfl⟩ | ⟨a, l, c, m, n, D, Pl, rfl, _, hl, hm, hmm, rfl, hel⟩
  · exact ⟨[], none, 0, rfl, Nat.le_refl _, ⟨rfl, by simp, fun h => absurd h (by simp)⟩, by simp, by simp⟩
  · simp only [if_true] at hmm
    subst hmm
    have hlr : l ≤ reachBytes := by
      have := fit_len ht hf (by rw [hnb]; exact hb1)
      simpa using this
    have hmx : l ≤ 9223372036854775807 := by rw [reach_eq] at hlr; omega
    rw [hc] at hel
    obtain ⟨f, hfx⟩ := choose_lt (α := α) (p := fun i b => good b ∧ ∃ cs', kd.K W b cs' ∧ cs'.length = kd.sz ∧ ∀ j u, cs'[j]? = some u → W.cell? (a.add (i * kd.sz + j)) = some u) (n := l) (fun i hi => by
      obtain ⟨cs', h1, h2⟩ := hel i (by omega)
      obtain ⟨b, hK, hg⟩ := hE _ _ _ h2 (fit_elem ht hf (i := i) (by simp [hi]))
      obtain ⟨_, hlen, hcell⟩ := World.cells?_some h1
      refine ⟨b, hg, cs', hK, kd.K_len hK, fun j u hu => ?_⟩
      have hj : j < kd.sz := by rw [← kd.K_len hK]; exact (List.getElem?_eq_some_iff.1 hu).1
      have := hcell j hj
      rw [Deep.add_add] at this
      rw [this]; exact hu)
    refine ⟨(List.range l).map f, some a, m, by simp, by simp; exact hl, ⟨by simp, by simp; exact hmx, fun _ => ⟨a, rfl, fun j p hj => ?_⟩⟩, by simp; exact hlr, fun b hb => ?_⟩
    · have hjl : j < l := by have := (List.getElem?_eq_some_iff.1 hj).1; simpa using this
      simp [hjl] at hj
      subst hj
      obtain ⟨_, cs', hK, hlen, hcell⟩ := hfx j hjl
      exact ⟨cs', hlen, hK, hcell⟩
    · obtain ⟨i, hi, rfl⟩ := List.mem_map.1 hb
      exact (hfx i (by have := List.mem_range.1 hi; omega)).1
theorem wf_In {n : Int} (h : (Lit.int .i64 n).wf = true) : In n := by
  simp only [Lit.wf, Bool.and_eq_true, decide_eq_true_eq] at h
  exact ⟨h.1, h.2⟩
/-- Within the form's reach. -/
def gL (l : List Int) : Prop := (∀ x ∈ l, In x) ∧ l.length ≤ reachBytes
theorem open27 {fuel : Nat} {cs : List Value} {x : DataW H × List MemPlace} (h : DataW.trod enc' Tryd.prog W 0 (fun _ => true) true fuel 27 cs = some x) (hf : Fit 27 x.1) :
    ∃ (xs : List Int) (A : Option Addr) (c : Nat), cs = [.slice A xs.length c] ∧ xs.length ≤ c ∧ (Kd.int .i64).C W A xs.length xs ∧ gL xs := by
  obtain ⟨xs, A, c, h1, h2, h3, h4, h5⟩ := open_C (Kd.int .i64) In Tryd.underlying27 (by kernel_rfl) 8 (by kernel_rfl) (by decide) (fun fuel cs x hx _ => by
    obtain ⟨n, rfl, _, hw⟩ := DataW.trod_int Tryd.underlying3 hx
    exact ⟨n, rfl, wf_In hw⟩) h hf
  exact ⟨xs, A, c, h1, h2, h3, h5, h4⟩
instance : Inhabited S48 := ⟨z48⟩
instance : Inhabited S36 := ⟨z36⟩
instance : Inhabited S38 := ⟨z38⟩
instance : Inhabited S41 := ⟨z41⟩
instance : Inhabited S46 := ⟨z46⟩
def g48 (x : S48) : Prop := In x.f0 ∧ In x.f1 ∧ In x.f2 ∧ In x.f3 ∧ In x.f4 ∧ x.f5.size ≤ reachBytes ∧ gL x.f6
theorem open48 {fuel : Nat} {cs : List Value} {x : DataW H × List MemPlace} (h : DataW.trod enc' Tryd.prog W 0 (fun _ => true) true fuel 48 cs = some x) (hfit : Fit 48 x.1) :
    ∃ a : S48, k48.K W a cs ∧ g48 a := by
  obtain ⟨xs, n, _, rfl, hl, hlen, hf⟩ := DataW.trod_struct Tryd.underlying48 h
  have cc : Tryd.prog.cellsOf 48 = 8 := by kernel_rfl
  have c2 : Tryd.prog.cellsOf 2 = 1 := by kernel_rfl
  have c3 : Tryd.prog.cellsOf 3 = 1 := by kernel_rfl
  have c4 : Tryd.prog.cellsOf 4 = 1 := by kernel_rfl
  have c9 : Tryd.prog.cellsOf 9 = 1 := by kernel_rfl
  have c27 : Tryd.prog.cellsOf 27 = 1 := by kernel_rfl
  rw [cc] at hl
  match cs, hl with
  | [a0, a1, a2, a3, a4, a5, a6, a7], _ =>
    match xs, hlen with
    | [y0, y1, y2, y3, y4, y5, y6, y7], _ =>
      have h0 : DataW.trod enc' Tryd.prog W 0 (fun _ => true) true n 3 (List.take (Tryd.prog.cellsOf 3) [a0, a1, a2, a3, a4, a5, a6, a7]) = some y0 := hf 0 _ rfl
      rw [c3] at h0
      have h1 : DataW.trod enc' Tryd.prog W 0 (fun _ => true) true n 3 (List.take (Tryd.prog.cellsOf 3) [a1, a2, a3, a4, a5, a6, a7]) = some y1 := hf 1 _ rfl
      rw [c3] at h1
      have h2 : DataW.trod enc' Tryd.prog W 0 (fun _ => true) true n 3 (List.take (Tryd.prog.cellsOf 3) [a2, a3, a4, a5, a6, a7]) = some y2 := hf 2 _ rfl
      rw [c3] at h2
      have h3 : DataW.trod enc' Tryd.prog W 0 (fun _ => true) true n 3 (List.take (Tryd.prog.cellsOf 3) [a3, a4, a5, a6, a7]) = some y3 := hf 3 _ rfl
      rw [c3] at h3
      have h4 : DataW.trod enc' Tryd.prog W 0 (fun _ => true) true n 2 (List.take (Tryd.prog.cellsOf 2) [a4, a5, a6, a7]) = some y4 := hf 4 _ rfl
      rw [c2] at h4
      have h5 : DataW.trod enc' Tryd.prog W 0 (fun _ => true) true n 9 (List.take (Tryd.prog.cellsOf 9) [a5, a6, a7]) = some y5 := hf 5 _ rfl
      rw [c9] at h5
      have h6 : DataW.trod enc' Tryd.prog W 0 (fun _ => true) true n 27 (List.take (Tryd.prog.cellsOf 27) [a6, a7]) = some y6 := hf 6 _ rfl
      rw [c27] at h6
      have h7 : DataW.trod enc' Tryd.prog W 0 (fun _ => true) true n 4 (List.take (Tryd.prog.cellsOf 4) [a7]) = some y7 := hf 7 _ rfl
      rw [c4] at h7
      simp only [List.take] at h0 h1 h2 h3 h4 h5 h6 h7
      obtain ⟨n0, e0, _, w0⟩ := DataW.trod_int Tryd.underlying3 h0
      cases e0
      obtain ⟨n1, e1, _, w1⟩ := DataW.trod_int Tryd.underlying3 h1
      cases e1
      obtain ⟨n2, e2, _, w2⟩ := DataW.trod_int Tryd.underlying3 h2
      cases e2
      obtain ⟨n3, e3, _, w3⟩ := DataW.trod_int Tryd.underlying3 h3
      cases e3
      obtain ⟨n4, e4, _, w4⟩ := DataW.trod_int Tryd.underlying2 h4
      cases e4
      have f5 : Fit 9 y5.1 := fit_field Tryd.underlying48 hfit (i := 5) rfl rfl
      obtain ⟨n5, e5, q5, _⟩ := DataW.trod_string Tryd.underlying9 h5
      cases e5
      have w5 : n5.size ≤ reachBytes := by
        have := f5 n5.data.toList.length (by rw [q5]; simp [DataW.weights])
        rwa [data_length] at this
      have f6 : Fit 27 y6.1 := fit_field Tryd.underlying48 hfit (i := 6) rfl rfl
      obtain ⟨l6, A6, k6, e6, b6, C6, g6⟩ := open27 h6 f6
      cases e6
      obtain ⟨n7, e7, _⟩ := DataW.trod_bool Tryd.underlying4 h7
      cases e7
      exact ⟨⟨n0, n1, n2, n3, n4, n5, l6, n7⟩, k48_mk _ _ b6 C6, wf_In w0, wf_In w1, wf_In w2, wf_In w3, wf_In w4, w5, g6⟩
theorem open42 {fuel : Nat} {cs : List Value} {x : DataW H × List MemPlace} (h : DataW.trod enc' Tryd.prog W 0 (fun _ => true) true fuel 42 cs = some x) (hf : Fit 42 x.1) :
    ∃ (xs : List S48) (A : Option Addr) (c : Nat), cs = [.slice A xs.length c] ∧ xs.length ≤ c ∧ k48.C W A xs.length xs ∧ xs.length ≤ reachBytes ∧ ∀ a ∈ xs, g48 a := by
  exact open_C k48 g48 Tryd.underlying42 (by kernel_rfl) 88 (by kernel_rfl) (by decide) (fun fuel cs x hx hfx => open48 hx hfx) h hf
def g44 (x : S44) : Prop := In x.f0 ∧ In x.f1 ∧ In x.f2 ∧ In x.f3 ∧ gL x.f4 ∧ gL x.f5
theorem open44 {fuel : Nat} {cs : List Value} {x : DataW H × List MemPlace} (h : DataW.trod enc' Tryd.prog W 0 (fun _ => true) true fuel 44 cs = some x) (hfit : Fit 44 x.1) :
    ∃ a : S44, k44.K W a cs ∧ g44 a := by
  obtain ⟨xs, n, _, rfl, hl, hlen, hf⟩ := DataW.trod_struct Tryd.underlying44 h
  have cc : Tryd.prog.cellsOf 44 = 6 := by kernel_rfl
  have c3 : Tryd.prog.cellsOf 3 = 1 := by kernel_rfl
  have c27 : Tryd.prog.cellsOf 27 = 1 := by kernel_rfl
  rw [cc] at hl
  match cs, hl with
  | [a0, a1, a2, a3, a4, a5], _ =>
    match xs, hlen with
    | [y0, y1, y2, y3, y4, y5], _ =>
      have h0 : DataW.trod enc' Tryd.prog W 0 (fun _ => true) true n 3 (List.take (Tryd.prog.cellsOf 3) [a0, a1, a2, a3, a4, a5]) = some y0 := hf 0 _ rfl
      rw [c3] at h0
      have h1 : DataW.trod enc' Tryd.prog W 0 (fun _ => true) true n 3 (List.take (Tryd.prog.cellsOf 3) [a1, a2, a3, a4, a5]) = some y1 := hf 1 _ rfl
      rw [c3] at h1
      have h2 : DataW.trod enc' Tryd.prog W 0 (fun _ => true) true n 3 (List.take (Tryd.prog.cellsOf 3) [a2, a3, a4, a5]) = some y2 := hf 2 _ rfl
      rw [c3] at h2
      have h3 : DataW.trod enc' Tryd.prog W 0 (fun _ => true) true n 3 (List.take (Tryd.prog.cellsOf 3) [a3, a4, a5]) = some y3 := hf 3 _ rfl
      rw [c3] at h3
      have h4 : DataW.trod enc' Tryd.prog W 0 (fun _ => true) true n 27 (List.take (Tryd.prog.cellsOf 27) [a4, a5]) = some y4 := hf 4 _ rfl
      rw [c27] at h4
      have h5 : DataW.trod enc' Tryd.prog W 0 (fun _ => true) true n 27 (List.take (Tryd.prog.cellsOf 27) [a5]) = some y5 := hf 5 _ rfl
      rw [c27] at h5
      simp only [List.take] at h0 h1 h2 h3 h4 h5
      obtain ⟨n0, e0, _, w0⟩ := DataW.trod_int Tryd.underlying3 h0
      cases e0
      obtain ⟨n1, e1, _, w1⟩ := DataW.trod_int Tryd.underlying3 h1
      cases e1
      obtain ⟨n2, e2, _, w2⟩ := DataW.trod_int Tryd.underlying3 h2
      cases e2
      obtain ⟨n3, e3, _, w3⟩ := DataW.trod_int Tryd.underlying3 h3
      cases e3
      have f4 : Fit 27 y4.1 := fit_field Tryd.underlying44 hfit (i := 4) rfl rfl
      obtain ⟨l4, A4, k4, e4, b4, C4, g4⟩ := open27 h4 f4
      cases e4
      have f5 : Fit 27 y5.1 := fit_field Tryd.underlying44 hfit (i := 5) rfl rfl
      obtain ⟨l5, A5, k5, e5, b5, C5, g5⟩ := open27 h5 f5
      cases e5
      exact ⟨⟨n0, n1, n2, n3, l4, l5⟩, k44_mk _ _ b4 C4 b5 C5, wf_In w0, wf_In w1, wf_In w2, wf_In w3, g4, g5⟩
def g46 (x : S46) : Prop := gL x.f0 ∧ ((∀ y ∈ x.f1, g48 y) ∧ x.f1.length ≤ reachBytes) ∧ g44 x.f2
theorem open46 {fuel : Nat} {cs : List Value} {x : DataW H × List MemPlace} (h : DataW.trod enc' Tryd.prog W 0 (fun _ => true) true fuel 46 cs = some x) (hfit : Fit 46 x.1) :
    ∃ a : S46, k46.K W a cs ∧ g46 a := by
  obtain ⟨xs, n, _, rfl, hl, hlen, hf⟩ := DataW.trod_struct Tryd.underlying46 h
  have cc : Tryd.prog.cellsOf 46 = 8 := by kernel_rfl
  have c27 : Tryd.prog.cellsOf 27 = 1 := by kernel_rfl
  have c42 : Tryd.prog.cellsOf 42 = 1 := by kernel_rfl
  have c44 : Tryd.prog.cellsOf 44 = 6 := by kernel_rfl
  rw [cc] at hl
  match cs, hl with
  | [a0, a1, a2, a3, a4, a5, a6, a7], _ =>
    match xs, hlen with
    | [y0, y1, y2], _ =>
      have h0 : DataW.trod enc' Tryd.prog W 0 (fun _ => true) true n 27 (List.take (Tryd.prog.cellsOf 27) [a0, a1, a2, a3, a4, a5, a6, a7]) = some y0 := hf 0 _ rfl
      rw [c27] at h0
      have h1 : DataW.trod enc' Tryd.prog W 0 (fun _ => true) true n 42 (List.take (Tryd.prog.cellsOf 42) [a1, a2, a3, a4, a5, a6, a7]) = some y1 := hf 1 _ rfl
      rw [c42] at h1
      have h2 : DataW.trod enc' Tryd.prog W 0 (fun _ => true) true n 44 (List.take (Tryd.prog.cellsOf 44) [a2, a3, a4, a5, a6, a7]) = some y2 := hf 2 _ rfl
      rw [c44] at h2
      simp only [List.take] at h0 h1 h2
      have f0 : Fit 27 y0.1 := fit_field Tryd.underlying46 hfit (i := 0) rfl rfl
      obtain ⟨l0, A0, k0, e0, b0, C0, g0⟩ := open27 h0 f0
      cases e0
      have f1 : Fit 42 y1.1 := fit_field Tryd.underlying46 hfit (i := 1) rfl rfl
      obtain ⟨l1, A1, k1, e1, b1, C1, r1, g1⟩ := open42 h1 f1
      cases e1
      have f2 : Fit 44 y2.1 := fit_field Tryd.underlying46 hfit (i := 2) rfl rfl
      obtain ⟨s2, K2, g2⟩ := open44 h2 f2
      obtain ⟨A6, k6, A7, k7, e2, b6, C6, b7, C7⟩ := k44_open K2
      simp only [List.cons.injEq, and_true] at e2
      obtain ⟨rfl, rfl, rfl, rfl, rfl, rfl⟩ := e2
      exact ⟨⟨l0, l1, s2⟩, k46_mk _ ⟨l0, l1, s2⟩ b0 C0 b1 C1 b6 C6 b7 C7, g0, ⟨g1, r1⟩, g2⟩
theorem open39 {fuel : Nat} {cs : List Value} {x : DataW H × List MemPlace} (h : DataW.trod enc' Tryd.prog W 0 (fun _ => true) true fuel 39 cs = some x) (hf : Fit 39 x.1) :
    ∃ (xs : List S46) (A : Option Addr) (c : Nat), cs = [.slice A xs.length c] ∧ xs.length ≤ c ∧ k46.C W A xs.length xs ∧ xs.length ≤ reachBytes ∧ ∀ a ∈ xs, g46 a := by
  exact open_C k46 g46 Tryd.underlying39 (by kernel_rfl) 128 (by kernel_rfl) (by decide) (fun fuel cs x hx hfx => open46 hx hfx) h hf
def g41 (x : S41) : Prop := In x.f0 ∧ ((∀ y ∈ x.f1, g46 y) ∧ x.f1.length ≤ reachBytes)
theorem open41 {fuel : Nat} {cs : List Value} {x : DataW H × List MemPlace} (h : DataW.trod enc' Tryd.prog W 0 (fun _ => true) true fuel 41 cs = some x) (hfit : Fit 41 x.1) :
    ∃ a : S41, k41.K W a cs ∧ g41 a := by
  obtain ⟨xs, n, _, rfl, hl, hlen, hf⟩ := DataW.trod_struct Tryd.underlying41 h
  have cc : Tryd.prog.cellsOf 41 = 2 := by kernel_rfl
  have c3 : Tryd.prog.cellsOf 3 = 1 := by kernel_rfl
  have c39 : Tryd.prog.cellsOf 39 = 1 := by kernel_rfl
  rw [cc] at hl
  match cs, hl with
  | [a0, a1], _ =>
    match xs, hlen with
    | [y0, y1], _ =>
      have h0 : DataW.trod enc' Tryd.prog W 0 (fun _ => true) true n 3 (List.take (Tryd.prog.cellsOf 3) [a0, a1]) = some y0 := hf 0 _ rfl
      rw [c3] at h0
      have h1 : DataW.trod enc' Tryd.prog W 0 (fun _ => true) true n 39 (List.take (Tryd.prog.cellsOf 39) [a1]) = some y1 := hf 1 _ rfl
      rw [c39] at h1
      simp only [List.take] at h0 h1
      obtain ⟨n0, e0, _, w0⟩ := DataW.trod_int Tryd.underlying3 h0
      cases e0
      have f1 : Fit 39 y1.1 := fit_field Tryd.underlying41 hfit (i := 1) rfl rfl
      obtain ⟨l1, A1, k1, e1, b1, C1, r1, g1⟩ := open39 h1 f1
      cases e1
      exact ⟨⟨n0, l1⟩, ⟨[_], [_], rfl, rfl, ⟨_, _, rfl, b1, C1⟩⟩, wf_In w0, ⟨g1, r1⟩⟩
theorem open24 {fuel : Nat} {cs : List Value} {x : DataW H × List MemPlace} (h : DataW.trod enc' Tryd.prog W 0 (fun _ => true) true fuel 24 cs = some x) (hf : Fit 24 x.1) :
    ∃ (xs : List S41) (A : Option Addr) (c : Nat), cs = [.slice A xs.length c] ∧ xs.length ≤ c ∧ k41.C W A xs.length xs ∧ xs.length ≤ reachBytes ∧ ∀ a ∈ xs, g41 a := by
  exact open_C k41 g41 Tryd.underlying24 (by kernel_rfl) 32 (by kernel_rfl) (by decide) (fun fuel cs x hx hfx => open41 hx hfx) h hf
def g36 (x : S36) : Prop := gL x.f0 ∧ In x.f1
theorem open36 {fuel : Nat} {cs : List Value} {x : DataW H × List MemPlace} (h : DataW.trod enc' Tryd.prog W 0 (fun _ => true) true fuel 36 cs = some x) (hfit : Fit 36 x.1) :
    ∃ a : S36, k36.K W a cs ∧ g36 a := by
  obtain ⟨xs, n, _, rfl, hl, hlen, hf⟩ := DataW.trod_struct Tryd.underlying36 h
  have cc : Tryd.prog.cellsOf 36 = 2 := by kernel_rfl
  have c3 : Tryd.prog.cellsOf 3 = 1 := by kernel_rfl
  have c27 : Tryd.prog.cellsOf 27 = 1 := by kernel_rfl
  rw [cc] at hl
  match cs, hl with
  | [a0, a1], _ =>
    match xs, hlen with
    | [y0, y1], _ =>
      have h0 : DataW.trod enc' Tryd.prog W 0 (fun _ => true) true n 27 (List.take (Tryd.prog.cellsOf 27) [a0, a1]) = some y0 := hf 0 _ rfl
      rw [c27] at h0
      have h1 : DataW.trod enc' Tryd.prog W 0 (fun _ => true) true n 3 (List.take (Tryd.prog.cellsOf 3) [a1]) = some y1 := hf 1 _ rfl
      rw [c3] at h1
      simp only [List.take] at h0 h1
      have f0 : Fit 27 y0.1 := fit_field Tryd.underlying36 hfit (i := 0) rfl rfl
      obtain ⟨l0, A0, k0, e0, b0, C0, g0⟩ := open27 h0 f0
      cases e0
      obtain ⟨n1, e1, _, w1⟩ := DataW.trod_int Tryd.underlying3 h1
      cases e1
      exact ⟨⟨l0, n1⟩, ⟨[_], [_], rfl, ⟨_, _, rfl, b0, C0⟩, rfl⟩, g0, wf_In w1⟩
theorem open22 {fuel : Nat} {cs : List Value} {x : DataW H × List MemPlace} (h : DataW.trod enc' Tryd.prog W 0 (fun _ => true) true fuel 22 cs = some x) (hf : Fit 22 x.1) :
    ∃ (xs : List S36) (A : Option Addr) (c : Nat), cs = [.slice A xs.length c] ∧ xs.length ≤ c ∧ k36.C W A xs.length xs ∧ xs.length ≤ reachBytes ∧ ∀ a ∈ xs, g36 a := by
  exact open_C k36 g36 Tryd.underlying22 (by kernel_rfl) 32 (by kernel_rfl) (by decide) (fun fuel cs x hx hfx => open36 hx hfx) h hf
def g38 (x : S38) : Prop := gL x.f0 ∧ gL x.f1
theorem open38 {fuel : Nat} {cs : List Value} {x : DataW H × List MemPlace} (h : DataW.trod enc' Tryd.prog W 0 (fun _ => true) true fuel 38 cs = some x) (hfit : Fit 38 x.1) :
    ∃ a : S38, k38.K W a cs ∧ g38 a := by
  obtain ⟨xs, n, _, rfl, hl, hlen, hf⟩ := DataW.trod_struct Tryd.underlying38 h
  have cc : Tryd.prog.cellsOf 38 = 2 := by kernel_rfl
  have c27 : Tryd.prog.cellsOf 27 = 1 := by kernel_rfl
  rw [cc] at hl
  match cs, hl with
  | [a0, a1], _ =>
    match xs, hlen with
    | [y0, y1], _ =>
      have h0 : DataW.trod enc' Tryd.prog W 0 (fun _ => true) true n 27 (List.take (Tryd.prog.cellsOf 27) [a0, a1]) = some y0 := hf 0 _ rfl
      rw [c27] at h0
      have h1 : DataW.trod enc' Tryd.prog W 0 (fun _ => true) true n 27 (List.take (Tryd.prog.cellsOf 27) [a1]) = some y1 := hf 1 _ rfl
      rw [c27] at h1
      simp only [List.take] at h0 h1
      have f0 : Fit 27 y0.1 := fit_field Tryd.underlying38 hfit (i := 0) rfl rfl
      obtain ⟨l0, A0, k0, e0, b0, C0, g0⟩ := open27 h0 f0
      cases e0
      have f1 : Fit 27 y1.1 := fit_field Tryd.underlying38 hfit (i := 1) rfl rfl
      obtain ⟨l1, A1, k1, e1, b1, C1, g1⟩ := open27 h1 f1
      cases e1
      exact ⟨⟨l0, l1⟩, ⟨[_], [_], rfl, ⟨_, _, rfl, b0, C0⟩, ⟨_, _, rfl, b1, C1⟩⟩, g0, g1⟩
theorem open23 {fuel : Nat} {cs : List Value} {x : DataW H × List MemPlace} (h : DataW.trod enc' Tryd.prog W 0 (fun _ => true) true fuel 23 cs = some x) (hf : Fit 23 x.1) :
    ∃ (xs : List S38) (A : Option Addr) (c : Nat), cs = [.slice A xs.length c] ∧ xs.length ≤ c ∧ k38.C W A xs.length xs ∧ xs.length ≤ reachBytes ∧ ∀ a ∈ xs, g38 a := by
  exact open_C k38 g38 Tryd.underlying23 (by kernel_rfl) 48 (by kernel_rfl) (by decide) (fun fuel cs x hx hfx => open38 hx hfx) h hf
/-- What is handed in of a program. -/
structure gP (p : S26) : Prop where
  s : ∀ x ∈ p.f0, g36 x
  c : ∀ x ∈ p.f1, g38 x
  f : ∀ x ∈ p.f2, g41 x
  ls : p.f0.length ≤ reachBytes
  lc : p.f1.length ≤ reachBytes
  lf : p.f2.length ≤ reachBytes
/-- A program as it is handed over. -/
def ProgC (p : S26) (A0 A1 A2 : Option Addr) (c0 c1 c2 : Nat) : List Value := [.slice A0 p.f0.length c0, .slice A1 p.f1.length c1, .slice A2 p.f2.length c2]
structure InP (w : World) (p : S26) (A0 A1 A2 : Option Addr) (c0 c1 c2 : Nat) : Prop where
  s : p.f0.length ≤ c0 ∧ k36.C w A0 p.f0.length p.f0
  c : p.f1.length ≤ c1 ∧ k38.C w A1 p.f1.length p.f1
  f : p.f2.length ≤ c2 ∧ k41.C w A2 p.f2.length p.f2
theorem open26 {fuel : Nat} {cs : List Value} {x : DataW H × List MemPlace} (h : DataW.trod enc' Tryd.prog W 0 (fun _ => true) true fuel 26 cs = some x) (hfit : Fit 26 x.1) :
    ∃ (p : S26) (A0 A1 A2 : Option Addr) (c0 c1 c2 : Nat), cs = ProgC p A0 A1 A2 c0 c1 c2 ∧ InP W p A0 A1 A2 c0 c1 c2 ∧ gP p := by
  obtain ⟨xs, n, _, rfl, hl, hlen, hf⟩ := DataW.trod_struct Tryd.underlying26 h
  have cc : Tryd.prog.cellsOf 26 = 3 := by kernel_rfl
  have c22 : Tryd.prog.cellsOf 22 = 1 := by kernel_rfl
  have c23 : Tryd.prog.cellsOf 23 = 1 := by kernel_rfl
  have c24 : Tryd.prog.cellsOf 24 = 1 := by kernel_rfl
  rw [cc] at hl
  match cs, hl with
  | [a0, a1, a2], _ =>
    match xs, hlen with
    | [y0, y1, y2], _ =>
      have h0 : DataW.trod enc' Tryd.prog W 0 (fun _ => true) true n 22 (List.take (Tryd.prog.cellsOf 22) [a0, a1, a2]) = some y0 := hf 0 _ rfl
      rw [c22] at h0
      have h1 : DataW.trod enc' Tryd.prog W 0 (fun _ => true) true n 23 (List.take (Tryd.prog.cellsOf 23) [a1, a2]) = some y1 := hf 1 _ rfl
      rw [c23] at h1
      have h2 : DataW.trod enc' Tryd.prog W 0 (fun _ => true) true n 24 (List.take (Tryd.prog.cellsOf 24) [a2]) = some y2 := hf 2 _ rfl
      rw [c24] at h2
      simp only [List.take] at h0 h1 h2
      have f0 : Fit 22 y0.1 := fit_field Tryd.underlying26 hfit (i := 0) rfl rfl
      have f1 : Fit 23 y1.1 := fit_field Tryd.underlying26 hfit (i := 1) rfl rfl
      have f2 : Fit 24 y2.1 := fit_field Tryd.underlying26 hfit (i := 2) rfl rfl
      obtain ⟨l0, A0, k0, e0, b0, C0, r0, g0⟩ := open22 h0 f0
      cases e0
      obtain ⟨l1, A1, k1, e1, b1, C1, r1, g1⟩ := open23 h1 f1
      cases e1
      obtain ⟨l2, A2, k2, e2, b2, C2, r2, g2⟩ := open24 h2 f2
      cases e2
      exact ⟨⟨l0, l1, l2⟩, A0, A1, A2, k0, k1, k2, rfl, ⟨⟨b0, C0⟩, ⟨b1, C1⟩, ⟨b2, C2⟩⟩, ⟨g0, g1, g2, r0, r1, r2⟩⟩
end
end Go.Proofs.YtacopdbldfgknaaDoor
