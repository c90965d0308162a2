/- What is handed in, opened: plain data out of its reading (printed by wip/auto/mk_go.py). -/
import Derived.Test.YtpeafglbhjjbhaaDoorKN
import Derived.Deep.Slices
import Derived.SizedLaws
import Derived.ChangeArms
import Derived.OpenShut
import Derived.Carry
namespace Go.Proofs.YtpeafglbhjjbhaaDoor
set_option maxRecDepth 100000
open Go Go.RowKit Go.Deep Go.ChangeShapes

/-- Each string and slice in d is within the form's reach. -/
def Fit {H : Type} (t : TypeId) (d : DataW H) : Prop := ∀ n ∈ d.weights Tryd.prog t, n ≤ reachBytes
theorem reach_eq : reachBytes = 140737488351232 := rfl
theorem data_len (s : ByteArray) : s.data.toList.length = s.size := by simp
/-- The blocks that are there. -/
def Nw (W : World) : Nat → Prop := fun k => k < W.heap.size
inductive RDL (w : World) (N : Nat → Prop) : List CT → List Value → Prop
  | nil : RDL w N [] []
  | cons {c : CT} {u : Value} {l : List CT} {us : List Value} (h : RD w N c u) (h1 : u.oneCell' = true) (h' : RDL w N l us) : RDL w N (c :: l) (u :: us)
theorem RDL.append {w : World} {N : Nat → Prop} {l m : List CT} {us vs : List Value} (h : RDL w N l us) (k : RDL w N m vs) : RDL w N (l ++ m) (us ++ vs) := by
  induction h with
  | nil => exact k
  | cons h h1 _ ih => exact .cons h h1 ih
theorem RDL.at_ {w : World} {N : Nat → Prop} {l : List CT} {us : List Value} (h : RDL w N l us) : us.length = l.length ∧ ∀ (j : Nat) (c : CT), l[j]? = some c → ∃ u, us[j]? = some u ∧ RD w N c u ∧ u.oneCell' = true := by
  induction h with
  | nil => exact ⟨rfl, fun j c hj => by simp at hj⟩
  | @cons c u l us h h1 _ ih =>
    refine ⟨by simp [ih.1], fun j c hj => ?_⟩
    cases j with
    | zero => simp at hj; subst hj; exact ⟨u, rfl, h, h1⟩
    | succ j => simpa using ih.2 j c (by simpa using hj)
section
variable {H : Type} {enc' : TypeId × Value → H} {W : World}
theorem weights_all {e : TypeId} : ∀ {ds : List (DataW H)} {j : Nat} {d : DataW H}, ds[j]? = some d → ∀ n ∈ d.weights Tryd.prog e, n ∈ DataW.weightsAll Tryd.prog e ds
  | d0 :: ds, 0, d, hd, n, hn => by
    simp only [List.getElem?_cons_zero, Option.some.injEq] at hd
    subst hd
    simp only [DataW.weightsAll, List.mem_append]
    exact .inl hn
  | d0 :: ds, j + 1, d, hd, n, hn => by
    simp only [List.getElem?_cons_succ] at hd
    simp only [DataW.weightsAll, List.mem_append]
    exact .inr (weights_all hd n hn)
  | [], _, _, hd, _, _ => by simp at hd
theorem fit_field {t : TypeId} {fs : Array Field} {parts : List (DataW H)} (ht : Tryd.prog.underlying t = some (.struct fs)) (h : Fit t (.agg parts : DataW H)) {i : Nat} {f : TypeId} {d : DataW H} (hf : (fs.toList.map (·.type))[i]? = some f) (hd : parts[i]? = some d) : Fit f d :=
  fun n hn => h n (by simp only [DataW.weights, ht]; exact DataW.weights_mem_each hf hd n hn)
theorem fit_elem {t e : TypeId} {elems spare : List (DataW H)} (ht : Tryd.prog.underlying t = some (.slice e)) (h : Fit t (.slice elems spare : DataW H)) {i : Nat} {d : DataW H} (hd : elems[i]? = some d) : Fit e d :=
  fun n hn => h n (by simp only [DataW.weights, ht, List.mem_cons, List.mem_append]; exact .inr (.inl (weights_all hd n hn)))
theorem fit_len {t e : TypeId} {elems spare : List (DataW H)} (ht : Tryd.prog.underlying t = some (.slice e)) (h : Fit t (.slice elems spare : DataW H)) : elems.length * Tryd.prog.bytesOf e ≤ reachBytes := by
  have h1 := h ((elems.length + spare.length) * Tryd.prog.bytesOf e) (by simp only [DataW.weights, ht]; exact List.mem_cons_self)
  have h2 : elems.length * Tryd.prog.bytesOf e ≤ (elems.length + spare.length) * Tryd.prog.bytesOf e := Nat.mul_le_mul_right _ (by omega)
  omega
theorem open_RD {α : Type} [Inhabited α] (ct : α → List CT) (good : α → Prop) {t e sz : TypeId} (ht : Tryd.prog.underlying t = some (.slice e)) (hc : Tryd.prog.cellsOf e = sz) (hct : ∀ a, (ct a).length = sz) (hs : 0 < sz) (nb : Nat) (hnb : Tryd.prog.bytesOf e = nb) (hb1 : 1 ≤ nb)
    (hE : ∀ fuel cs (x : DataW H × List MemPlace), DataW.trod enc' Tryd.prog W 0 (fun _ => true) true fuel e cs = some x → Fit e x.1 → ∃ a, RDL W (Nw W) (ct a) cs ∧ good a)
    {fuel : Nat} {cs : List Value} {x : DataW H × List MemPlace} (h : DataW.trod enc' Tryd.prog W 0 (fun _ => true) true fuel t cs = some x) (hf : Fit t x.1) :
    ∃ (xs : List α) (A : Option Addr) (c : Nat), cs = [.slice A xs.length c] ∧ RD W (Nw W) (.sl e sz (xs.map ct)) (.slice A xs.length c) ∧ xs.length * nb ≤ reachBytes ∧ ∀ a ∈ xs, good a := by
  rcases open_slice ht h with ⟨rfl, rfl⟩ | ⟨a, l, c, m, n, D, Pl, rfl, _, hl, hm, hmm, rfl, hel⟩
  · exact ⟨[], none, 0, rfl, .sl none 0 0 0 0 (fun _ _ => undef) rfl (fun h => absurd rfl h) (Nat.le_refl _) (by omega) (by simp) (fun i o es c hi => by simp at hi) (fun i o es c hi => by simp at hi) (fun i o es c hi => by simp at hi), by simp, by simp⟩
  · simp only [if_true] at hmm
    subst hmm
    have hlr : l * nb ≤ reachBytes := by
      have := fit_len ht hf
      rw [hnb] at this
      simpa using this
    have hl1 : l * 1 ≤ l * nb := Nat.mul_le_mul_left _ hb1
    have hmx : m ≤ 9223372036854775807 := by simp only [maxLen] at hm; omega
    rw [hc] at hel
    obtain ⟨f, hfx⟩ := choose_lt (α := α) (p := fun i b => good b ∧ ∃ cs', RDL W (Nw W) (ct b) cs' ∧ ∀ j u, cs'[j]? = some u → W.cell? (a.add (i * sz + j)) = some u) (n := l) (fun i hi => by
      obtain ⟨cs', h1, h2⟩ := hel i (by omega)
      obtain ⟨b, hK, hg⟩ := hE _ _ _ h2 (fit_elem ht hf (i := i) (by simp [hi]))
      obtain ⟨_, hlen, hcell⟩ := World.cells?_some h1
      refine ⟨b, hg, cs', hK, fun j u hu => ?_⟩
      have hj : j < sz := by rw [← hct b, ← hK.at_.1]; exact (List.getElem?_eq_some_iff.1 hu).1
      have := hcell j hj
      rw [Deep.add_add] at this
      rw [this]; exact hu)
    have hat : ∀ i es, ((List.range l).map f |>.map ct)[i]? = some es → i < l ∧ es = ct (f i) := fun i es hi => by
      have hil : i < l := by have := (List.getElem?_eq_some_iff.1 hi).1; simpa using this
      simp [hil] at hi
      exact ⟨hil, hi.symm⟩
    have hplace : 0 < l → a.spot = none ∧ a.block < W.heap.size := fun hpos => by
      obtain ⟨_, cs', hK, hcell⟩ := hfx 0 hpos
      have h0 : 0 < (ct (f 0)).length := by rw [hct]; exact hs
      obtain ⟨u, hu, _, _⟩ := hK.at_.2 0 _ (List.getElem?_eq_getElem h0)
      have hc0 := hcell 0 u hu
      exact ⟨by simpa [Addr.add] using World.cell?_spot hc0, by simpa [Addr.add] using World.block_lt_of_cell? W _ hc0⟩
    obtain ⟨b, off, spot⟩ := a
    have hus : ∀ i o es c, ((List.range l).map f |>.map ct)[i]? = some es → es[o]? = some c → ∃ u, W.cell? ⟨b, off + (i * sz + o), none⟩ = some u ∧ RD W (Nw W) c u ∧ u.oneCell' = true := fun i o es c hi ho => by
      obtain ⟨hil, rfl⟩ := hat i es hi
      obtain ⟨_, cs', hK, hcell⟩ := hfx i hil
      obtain ⟨u, hu, g1, g2⟩ := hK.at_.2 o c ho
      have := hcell o u hu
      have hsp := (hplace (by omega)).1
      simp only at hsp
      subst hsp
      rw [add_plain'] at this
      exact ⟨u, this, g1, g2⟩
    refine ⟨(List.range l).map f, some ⟨b, off, spot⟩, m, by simp, ?_, by simpa using hlr, fun b' hb => ?_⟩
    · refine .sl _ b off _ m (fun i o => (W.cell? ⟨b, off + (i * sz + o), none⟩).getD undef) (by simp) (fun hne => ?_) (by simpa using hl) hmx (fun es he => ?_) (fun i o es c hi ho => ?_) (fun i o es c hi ho => ?_) (fun i o es c hi ho => ?_)
      · have hpos : 0 < l := by
          rcases Nat.eq_zero_or_pos l with h0 | h0
          · subst h0; simp at hne
          · exact h0
        obtain ⟨g1, g2⟩ := hplace hpos
        simp only at g1
        subst g1
        exact ⟨rfl, g2⟩
      · obtain ⟨x, _, rfl⟩ := List.mem_map.1 he
        exact hct x
      · obtain ⟨u, hu, _, _⟩ := hus i o es c hi ho
        rw [hu]; rfl
      · obtain ⟨u, hu, _, h1⟩ := hus i o es c hi ho
        rw [hu]; exact h1
      · obtain ⟨u, hu, h1, _⟩ := hus i o es c hi ho
        rw [hu]; exact h1
    · obtain ⟨i, hi, rfl⟩ := List.mem_map.1 hb
      exact (hfx i (by have := List.mem_range.1 hi; omega)).1
instance : Inhabited MOp := ⟨⟨0, 0, 0, 0, 0, ⟨#[]⟩, [], false⟩⟩
instance : Inhabited MEnd := ⟨⟨0, 0, 0, 0, [], []⟩⟩
instance : Inhabited MBlk := ⟨⟨[], [], ⟨0, 0, 0, 0, [], []⟩⟩⟩
instance : Inhabited MFun := ⟨⟨0, []⟩⟩
instance : Inhabited MSig := ⟨⟨[], 0⟩⟩
instance : Inhabited MCls := ⟨⟨[], []⟩⟩
theorem opns_int {fuel : Nat} {cs : List Value} {x : DataW H × List MemPlace} (h : DataW.trod enc' Tryd.prog W 0 (fun _ => true) true fuel 29 cs = some x) (hf : Fit 29 x.1) : ∃ (xs : List Int) (A : Option Addr) (c : Nat), cs = [.slice A xs.length c] ∧ RD W (Nw W) (.sl 3 1 (xs.map iC)) (.slice A xs.length c) ∧ xs.length * 8 ≤ reachBytes ∧ ∀ a ∈ xs, (fun _ => True) a :=
  open_RD iC (fun _ => True) Tryd.underlying29 (by kernel_rfl) (fun _ => rfl) (by decide) 8 (by kernel_rfl) (by decide) (fun fuel cs x hx _ => by
    obtain ⟨n, rfl, _, hw⟩ := DataW.trod_int Tryd.underlying3 hx
    exact ⟨n, .cons (.v _) rfl .nil, trivial⟩) h hf

theorem opn_api_Sig {fuel : Nat} {cs : List Value} {x : DataW H × List MemPlace} (h : DataW.trod enc' Tryd.prog W 0 (fun _ => true) true fuel 40 cs = some x) (hf : Fit 40 x.1) : ∃ a : MSig, RDL W (Nw W) (MSig.ct a) cs ∧ (fun s : MSig => s.Params.length ≤ 17592186044416) a := by
  obtain ⟨xs, n, _, rfl, hl, hlen, hg⟩ := DataW.trod_struct Tryd.underlying40 h
  have cc : Tryd.prog.cellsOf 40 = 2 := by kernel_rfl
  have c3 : Tryd.prog.cellsOf 3 = 1 := by kernel_rfl
  have c29 : Tryd.prog.cellsOf 29 = 1 := by kernel_rfl
  rw [cc] at hl
  match cs, hl with
  | [a0, a1], _ =>
    match xs, hlen with
    | [y0, y1], _ =>
      have h0 : DataW.trod enc' Tryd.prog W 0 (fun _ => true) true n 29 (List.take (Tryd.prog.cellsOf 29) [a0, a1]) = some y0 := hg 0 _ rfl
      rw [c29] at h0
      have h1 : DataW.trod enc' Tryd.prog W 0 (fun _ => true) true n 3 (List.take (Tryd.prog.cellsOf 3) [a1]) = some y1 := hg 1 _ rfl
      rw [c3] at h1
      simp only [List.take] at h0 h1
      have f0 : Fit 29 y0.1 := fit_field Tryd.underlying40 hf (i := 0) rfl rfl
      obtain ⟨l0, A0, k0, e0, R0, b0, g0⟩ := opns_int h0 f0
      cases e0
      have w0 : l0.length ≤ 17592186044416 := by rw [reach_eq] at b0; omega
      obtain ⟨n1, e1, _, _⟩ := DataW.trod_int Tryd.underlying3 h1
      cases e1
      exact ⟨⟨l0, n1⟩, (.cons R0 rfl (.cons (.v _) rfl .nil)), w0⟩

theorem opns_api_Sig {fuel : Nat} {cs : List Value} {x : DataW H × List MemPlace} (h : DataW.trod enc' Tryd.prog W 0 (fun _ => true) true fuel 22 cs = some x) (hf : Fit 22 x.1) : ∃ (xs : List MSig) (A : Option Addr) (c : Nat), cs = [.slice A xs.length c] ∧ RD W (Nw W) (.sl 40 2 (xs.map MSig.ct)) (.slice A xs.length c) ∧ xs.length * 32 ≤ reachBytes ∧ ∀ a ∈ xs, (fun s : MSig => s.Params.length ≤ 17592186044416) a :=
  open_RD MSig.ct (fun s : MSig => s.Params.length ≤ 17592186044416) Tryd.underlying22 (by kernel_rfl) (fun _ => rfl) (by decide) 32 (by kernel_rfl) (by decide) (fun fuel cs x hx hfx => opn_api_Sig hx hfx) h hf

theorem opn_api_Class {fuel : Nat} {cs : List Value} {x : DataW H × List MemPlace} (h : DataW.trod enc' Tryd.prog W 0 (fun _ => true) true fuel 42 cs = some x) (hf : Fit 42 x.1) : ∃ a : MCls, RDL W (Nw W) (MCls.ct a) cs ∧ (fun c : MCls => c.Fields.length ≤ 17592186044416 ∧ c.Methods.length ≤ 17592186044416) a := by
  obtain ⟨xs, n, _, rfl, hl, hlen, hg⟩ := DataW.trod_struct Tryd.underlying42 h
  have cc : Tryd.prog.cellsOf 42 = 2 := by kernel_rfl
  have c29 : Tryd.prog.cellsOf 29 = 1 := by kernel_rfl
  rw [cc] at hl
  match cs, hl with
  | [a0, a1], _ =>
    match xs, hlen with
    | [y0, y1], _ =>
      have h0 : DataW.trod enc' Tryd.prog W 0 (fun _ => true) true n 29 (List.take (Tryd.prog.cellsOf 29) [a0, a1]) = some y0 := hg 0 _ rfl
      rw [c29] at h0
      have h1 : DataW.trod enc' Tryd.prog W 0 (fun _ => true) true n 29 (List.take (Tryd.prog.cellsOf 29) [a1]) = some y1 := hg 1 _ rfl
      rw [c29] at h1
      simp only [List.take] at h0 h1
      have f0 : Fit 29 y0.1 := fit_field Tryd.underlying42 hf (i := 0) rfl rfl
      obtain ⟨l0, A0, k0, e0, R0, b0, g0⟩ := opns_int h0 f0
      cases e0
      have w0 : l0.length ≤ 17592186044416 := by rw [reach_eq] at b0; omega
      have f1 : Fit 29 y1.1 := fit_field Tryd.underlying42 hf (i := 1) rfl rfl
      obtain ⟨l1, A1, k1, e1, R1, b1, g1⟩ := opns_int h1 f1
      cases e1
      have w1 : l1.length ≤ 17592186044416 := by rw [reach_eq] at b1; omega
      exact ⟨⟨l0, l1⟩, (.cons R0 rfl (.cons R1 rfl .nil)), ⟨w0, w1⟩⟩

theorem opns_api_Class {fuel : Nat} {cs : List Value} {x : DataW H × List MemPlace} (h : DataW.trod enc' Tryd.prog W 0 (fun _ => true) true fuel 23 cs = some x) (hf : Fit 23 x.1) : ∃ (xs : List MCls) (A : Option Addr) (c : Nat), cs = [.slice A xs.length c] ∧ RD W (Nw W) (.sl 42 2 (xs.map MCls.ct)) (.slice A xs.length c) ∧ xs.length * 48 ≤ reachBytes ∧ ∀ a ∈ xs, (fun c : MCls => c.Fields.length ≤ 17592186044416 ∧ c.Methods.length ≤ 17592186044416) a :=
  open_RD MCls.ct (fun c : MCls => c.Fields.length ≤ 17592186044416 ∧ c.Methods.length ≤ 17592186044416) Tryd.underlying23 (by kernel_rfl) (fun _ => rfl) (by decide) 48 (by kernel_rfl) (by decide) (fun fuel cs x hx hfx => opn_api_Class hx hfx) h hf

theorem opn_api_Op {fuel : Nat} {cs : List Value} {x : DataW H × List MemPlace} (h : DataW.trod enc' Tryd.prog W 0 (fun _ => true) true fuel 49 cs = some x) (hf : Fit 49 x.1) : ∃ a : MOp, RDL W (Nw W) (MOp.ct a) cs ∧ (fun o : MOp => o.L.length ≤ 17592186044416 ∧ o.S.size ≤ 140737488355328) a := by
  obtain ⟨xs, n, _, rfl, hl, hlen, hg⟩ := DataW.trod_struct Tryd.underlying49 h
  have cc : Tryd.prog.cellsOf 49 = 8 := by kernel_rfl
  have c2 : Tryd.prog.cellsOf 2 = 1 := by kernel_rfl
  have c3 : Tryd.prog.cellsOf 3 = 1 := by kernel_rfl
  have c4 : Tryd.prog.cellsOf 4 = 1 := by kernel_rfl
  have c9 : Tryd.prog.cellsOf 9 = 1 := by kernel_rfl
  have c29 : Tryd.prog.cellsOf 29 = 1 := by kernel_rfl
  rw [cc] at hl
  match cs, hl with
  | [a0, a1, a2, a3, a4, a5, a6, a7], _ =>
    match xs, hlen with
    | [y0, y1, y2, y3, y4, y5, y6, y7], _ =>
      have h0 : DataW.trod enc' Tryd.prog W 0 (fun _ => true) true n 3 (List.take (Tryd.prog.cellsOf 3) [a0, a1, a2, a3, a4, a5, a6, a7]) = some y0 := hg 0 _ rfl
      rw [c3] at h0
      have h1 : DataW.trod enc' Tryd.prog W 0 (fun _ => true) true n 3 (List.take (Tryd.prog.cellsOf 3) [a1, a2, a3, a4, a5, a6, a7]) = some y1 := hg 1 _ rfl
      rw [c3] at h1
      have h2 : DataW.trod enc' Tryd.prog W 0 (fun _ => true) true n 3 (List.take (Tryd.prog.cellsOf 3) [a2, a3, a4, a5, a6, a7]) = some y2 := hg 2 _ rfl
      rw [c3] at h2
      have h3 : DataW.trod enc' Tryd.prog W 0 (fun _ => true) true n 3 (List.take (Tryd.prog.cellsOf 3) [a3, a4, a5, a6, a7]) = some y3 := hg 3 _ rfl
      rw [c3] at h3
      have h4 : DataW.trod enc' Tryd.prog W 0 (fun _ => true) true n 2 (List.take (Tryd.prog.cellsOf 2) [a4, a5, a6, a7]) = some y4 := hg 4 _ rfl
      rw [c2] at h4
      have h5 : DataW.trod enc' Tryd.prog W 0 (fun _ => true) true n 9 (List.take (Tryd.prog.cellsOf 9) [a5, a6, a7]) = some y5 := hg 5 _ rfl
      rw [c9] at h5
      have h6 : DataW.trod enc' Tryd.prog W 0 (fun _ => true) true n 29 (List.take (Tryd.prog.cellsOf 29) [a6, a7]) = some y6 := hg 6 _ rfl
      rw [c29] at h6
      have h7 : DataW.trod enc' Tryd.prog W 0 (fun _ => true) true n 4 (List.take (Tryd.prog.cellsOf 4) [a7]) = some y7 := hg 7 _ rfl
      rw [c4] at h7
      simp only [List.take] at h0 h1 h2 h3 h4 h5 h6 h7
      obtain ⟨n0, e0, _, _⟩ := DataW.trod_int Tryd.underlying3 h0
      cases e0
      obtain ⟨n1, e1, _, _⟩ := DataW.trod_int Tryd.underlying3 h1
      cases e1
      obtain ⟨n2, e2, _, _⟩ := DataW.trod_int Tryd.underlying3 h2
      cases e2
      obtain ⟨n3, e3, _, _⟩ := DataW.trod_int Tryd.underlying3 h3
      cases e3
      obtain ⟨n4, e4, _, _⟩ := DataW.trod_int Tryd.underlying2 h4
      cases e4
      have f5 : Fit 9 y5.1 := fit_field Tryd.underlying49 hf (i := 5) rfl rfl
      obtain ⟨n5, e5, q5, _⟩ := DataW.trod_string Tryd.underlying9 h5
      cases e5
      have w5 : n5.size ≤ 140737488355328 := by
        have := f5 n5.data.toList.length (by rw [q5]; simp [DataW.weights])
        rw [data_len, reach_eq] at this
        omega
      have f6 : Fit 29 y6.1 := fit_field Tryd.underlying49 hf (i := 6) rfl rfl
      obtain ⟨l6, A6, k6, e6, R6, b6, g6⟩ := opns_int h6 f6
      cases e6
      have w6 : l6.length ≤ 17592186044416 := by rw [reach_eq] at b6; omega
      obtain ⟨n7, e7, _⟩ := DataW.trod_bool Tryd.underlying4 h7
      cases e7
      exact ⟨⟨n0, n1, n2, n3, n4, n5, l6, n7⟩, (.cons (.v _) rfl (.cons (.v _) rfl (.cons (.v _) rfl (.cons (.v _) rfl (.cons (.v _) rfl (.cons (.v _) rfl (.cons R6 rfl (.cons (.v _) rfl .nil)))))))), ⟨w6, w5⟩⟩

theorem opns_api_Op {fuel : Nat} {cs : List Value} {x : DataW H × List MemPlace} (h : DataW.trod enc' Tryd.prog W 0 (fun _ => true) true fuel 43 cs = some x) (hf : Fit 43 x.1) : ∃ (xs : List MOp) (A : Option Addr) (c : Nat), cs = [.slice A xs.length c] ∧ RD W (Nw W) (.sl 49 8 (xs.map MOp.ct)) (.slice A xs.length c) ∧ xs.length * 88 ≤ reachBytes ∧ ∀ a ∈ xs, (fun o : MOp => o.L.length ≤ 17592186044416 ∧ o.S.size ≤ 140737488355328) a :=
  open_RD MOp.ct (fun o : MOp => o.L.length ≤ 17592186044416 ∧ o.S.size ≤ 140737488355328) Tryd.underlying43 (by kernel_rfl) (fun _ => rfl) (by decide) 88 (by kernel_rfl) (by decide) (fun fuel cs x hx hfx => opn_api_Op hx hfx) h hf

theorem opn_api_End {fuel : Nat} {cs : List Value} {x : DataW H × List MemPlace} (h : DataW.trod enc' Tryd.prog W 0 (fun _ => true) true fuel 45 cs = some x) (hf : Fit 45 x.1) : ∃ a : MEnd, RDL W (Nw W) (MEnd.ct a) cs ∧ (fun e : MEnd => e.L.length ≤ 17592186044416 ∧ e.M.length ≤ 17592186044416) a := by
  obtain ⟨xs, n, _, rfl, hl, hlen, hg⟩ := DataW.trod_struct Tryd.underlying45 h
  have cc : Tryd.prog.cellsOf 45 = 6 := by kernel_rfl
  have c3 : Tryd.prog.cellsOf 3 = 1 := by kernel_rfl
  have c29 : Tryd.prog.cellsOf 29 = 1 := by kernel_rfl
  rw [cc] at hl
  match cs, hl with
  | [a0, a1, a2, a3, a4, a5], _ =>
    match xs, hlen with
    | [y0, y1, y2, y3, y4, y5], _ =>
      have h0 : DataW.trod enc' Tryd.prog W 0 (fun _ => true) true n 3 (List.take (Tryd.prog.cellsOf 3) [a0, a1, a2, a3, a4, a5]) = some y0 := hg 0 _ rfl
      rw [c3] at h0
      have h1 : DataW.trod enc' Tryd.prog W 0 (fun _ => true) true n 3 (List.take (Tryd.prog.cellsOf 3) [a1, a2, a3, a4, a5]) = some y1 := hg 1 _ rfl
      rw [c3] at h1
      have h2 : DataW.trod enc' Tryd.prog W 0 (fun _ => true) true n 3 (List.take (Tryd.prog.cellsOf 3) [a2, a3, a4, a5]) = some y2 := hg 2 _ rfl
      rw [c3] at h2
      have h3 : DataW.trod enc' Tryd.prog W 0 (fun _ => true) true n 3 (List.take (Tryd.prog.cellsOf 3) [a3, a4, a5]) = some y3 := hg 3 _ rfl
      rw [c3] at h3
      have h4 : DataW.trod enc' Tryd.prog W 0 (fun _ => true) true n 29 (List.take (Tryd.prog.cellsOf 29) [a4, a5]) = some y4 := hg 4 _ rfl
      rw [c29] at h4
      have h5 : DataW.trod enc' Tryd.prog W 0 (fun _ => true) true n 29 (List.take (Tryd.prog.cellsOf 29) [a5]) = some y5 := hg 5 _ rfl
      rw [c29] at h5
      simp only [List.take] at h0 h1 h2 h3 h4 h5
      obtain ⟨n0, e0, _, _⟩ := DataW.trod_int Tryd.underlying3 h0
      cases e0
      obtain ⟨n1, e1, _, _⟩ := DataW.trod_int Tryd.underlying3 h1
      cases e1
      obtain ⟨n2, e2, _, _⟩ := DataW.trod_int Tryd.underlying3 h2
      cases e2
      obtain ⟨n3, e3, _, _⟩ := DataW.trod_int Tryd.underlying3 h3
      cases e3
      have f4 : Fit 29 y4.1 := fit_field Tryd.underlying45 hf (i := 4) rfl rfl
      obtain ⟨l4, A4, k4, e4, R4, b4, g4⟩ := opns_int h4 f4
      cases e4
      have w4 : l4.length ≤ 17592186044416 := by rw [reach_eq] at b4; omega
      have f5 : Fit 29 y5.1 := fit_field Tryd.underlying45 hf (i := 5) rfl rfl
      obtain ⟨l5, A5, k5, e5, R5, b5, g5⟩ := opns_int h5 f5
      cases e5
      have w5 : l5.length ≤ 17592186044416 := by rw [reach_eq] at b5; omega
      exact ⟨⟨n0, n1, n2, n3, l4, l5⟩, (.cons (.v _) rfl (.cons (.v _) rfl (.cons (.v _) rfl (.cons (.v _) rfl (.cons R4 rfl (.cons R5 rfl .nil)))))), ⟨w4, w5⟩⟩

theorem opn_api_Block {fuel : Nat} {cs : List Value} {x : DataW H × List MemPlace} (h : DataW.trod enc' Tryd.prog W 0 (fun _ => true) true fuel 47 cs = some x) (hf : Fit 47 x.1) : ∃ a : MBlk, RDL W (Nw W) (MBlk.ct a) cs ∧ (LimB) a := by
  obtain ⟨xs, n, _, rfl, hl, hlen, hg⟩ := DataW.trod_struct Tryd.underlying47 h
  have cc : Tryd.prog.cellsOf 47 = 8 := by kernel_rfl
  have c29 : Tryd.prog.cellsOf 29 = 1 := by kernel_rfl
  have c43 : Tryd.prog.cellsOf 43 = 1 := by kernel_rfl
  have c45 : Tryd.prog.cellsOf 45 = 6 := by kernel_rfl
  rw [cc] at hl
  match cs, hl with
  | [a0, a1, a2, a3, a4, a5, a6, a7], _ =>
    match xs, hlen with
    | [y0, y1, y2], _ =>
      have h0 : DataW.trod enc' Tryd.prog W 0 (fun _ => true) true n 29 (List.take (Tryd.prog.cellsOf 29) [a0, a1, a2, a3, a4, a5, a6, a7]) = some y0 := hg 0 _ rfl
      rw [c29] at h0
      have h1 : DataW.trod enc' Tryd.prog W 0 (fun _ => true) true n 43 (List.take (Tryd.prog.cellsOf 43) [a1, a2, a3, a4, a5, a6, a7]) = some y1 := hg 1 _ rfl
      rw [c43] at h1
      have h2 : DataW.trod enc' Tryd.prog W 0 (fun _ => true) true n 45 (List.take (Tryd.prog.cellsOf 45) [a2, a3, a4, a5, a6, a7]) = some y2 := hg 2 _ rfl
      rw [c45] at h2
      simp only [List.take] at h0 h1 h2
      have f0 : Fit 29 y0.1 := fit_field Tryd.underlying47 hf (i := 0) rfl rfl
      obtain ⟨l0, A0, k0, e0, R0, b0, g0⟩ := opns_int h0 f0
      cases e0
      have w0 : l0.length ≤ 17592186044416 := by rw [reach_eq] at b0; omega
      have f1 : Fit 43 y1.1 := fit_field Tryd.underlying47 hf (i := 1) rfl rfl
      obtain ⟨l1, A1, k1, e1, R1, b1, g1⟩ := opns_api_Op h1 f1
      cases e1
      have w1 : l1.length ≤ 17592186044416 := by rw [reach_eq] at b1; omega
      have f2 : Fit 45 y2.1 := fit_field Tryd.underlying47 hf (i := 2) rfl rfl
      obtain ⟨s2, K2, g2⟩ := opn_api_End h2 f2
      exact ⟨⟨l0, l1, s2⟩, (.cons R0 rfl (.cons R1 rfl K2)), ⟨w0, w1, g2.1, g2.2, g1⟩⟩

theorem opns_api_Block {fuel : Nat} {cs : List Value} {x : DataW H × List MemPlace} (h : DataW.trod enc' Tryd.prog W 0 (fun _ => true) true fuel 31 cs = some x) (hf : Fit 31 x.1) : ∃ (xs : List MBlk) (A : Option Addr) (c : Nat), cs = [.slice A xs.length c] ∧ RD W (Nw W) (.sl 47 8 (xs.map MBlk.ct)) (.slice A xs.length c) ∧ xs.length * 128 ≤ reachBytes ∧ ∀ a ∈ xs, (LimB) a :=
  open_RD MBlk.ct (LimB) Tryd.underlying31 (by kernel_rfl) (fun _ => rfl) (by decide) 128 (by kernel_rfl) (by decide) (fun fuel cs x hx hfx => opn_api_Block hx hfx) h hf

theorem opn_api_Func {fuel : Nat} {cs : List Value} {x : DataW H × List MemPlace} (h : DataW.trod enc' Tryd.prog W 0 (fun _ => true) true fuel 33 cs = some x) (hf : Fit 33 x.1) : ∃ a : MFun, RDL W (Nw W) (MFun.ct a) cs ∧ (LimF) a := by
  obtain ⟨xs, n, _, rfl, hl, hlen, hg⟩ := DataW.trod_struct Tryd.underlying33 h
  have cc : Tryd.prog.cellsOf 33 = 2 := by kernel_rfl
  have c3 : Tryd.prog.cellsOf 3 = 1 := by kernel_rfl
  have c31 : Tryd.prog.cellsOf 31 = 1 := by kernel_rfl
  rw [cc] at hl
  match cs, hl with
  | [a0, a1], _ =>
    match xs, hlen with
    | [y0, y1], _ =>
      have h0 : DataW.trod enc' Tryd.prog W 0 (fun _ => true) true n 3 (List.take (Tryd.prog.cellsOf 3) [a0, a1]) = some y0 := hg 0 _ rfl
      rw [c3] at h0
      have h1 : DataW.trod enc' Tryd.prog W 0 (fun _ => true) true n 31 (List.take (Tryd.prog.cellsOf 31) [a1]) = some y1 := hg 1 _ rfl
      rw [c31] at h1
      simp only [List.take] at h0 h1
      obtain ⟨n0, e0, _, _⟩ := DataW.trod_int Tryd.underlying3 h0
      cases e0
      have f1 : Fit 31 y1.1 := fit_field Tryd.underlying33 hf (i := 1) rfl rfl
      obtain ⟨l1, A1, k1, e1, R1, b1, g1⟩ := opns_api_Block h1 f1
      cases e1
      have w1 : l1.length ≤ 17592186044416 := by rw [reach_eq] at b1; omega
      exact ⟨⟨n0, l1⟩, (.cons (.v _) rfl (.cons R1 rfl .nil)), ⟨w1, g1⟩⟩

theorem opns_api_Func {fuel : Nat} {cs : List Value} {x : DataW H × List MemPlace} (h : DataW.trod enc' Tryd.prog W 0 (fun _ => true) true fuel 24 cs = some x) (hf : Fit 24 x.1) : ∃ (xs : List MFun) (A : Option Addr) (c : Nat), cs = [.slice A xs.length c] ∧ RD W (Nw W) (.sl 33 2 (xs.map MFun.ct)) (.slice A xs.length c) ∧ xs.length * 32 ≤ reachBytes ∧ ∀ a ∈ xs, (LimF) a :=
  open_RD MFun.ct (LimF) Tryd.underlying24 (by kernel_rfl) (fun _ => rfl) (by decide) 32 (by kernel_rfl) (by decide) (fun fuel cs x hx hfx => opn_api_Func hx hfx) h hf

theorem opn_api_Prog {fuel : Nat} {cs : List Value} {x : DataW H × List MemPlace} (h : DataW.trod enc' Tryd.prog W 0 (fun _ => true) true fuel 26 cs = some x) (hf : Fit 26 x.1) : ∃ a : MPrg, RDL W (Nw W) (MPrg.ct a) cs ∧ (LimP) a := by
  obtain ⟨xs, n, _, rfl, hl, hlen, hg⟩ := DataW.trod_struct Tryd.underlying26 h
  have cc : Tryd.prog.cellsOf 26 = 3 := by kernel_rfl
  have c22 : Tryd.prog.cellsOf 22 = 1 := by kernel_rfl
  have c23 : Tryd.prog.cellsOf 23 = 1 := by kernel_rfl
  have c24 : Tryd.prog.cellsOf 24 = 1 := by kernel_rfl
  rw [cc] at hl
  match cs, hl with
  | [a0, a1, a2], _ =>
    match xs, hlen with
    | [y0, y1, y2], _ =>
      have h0 : DataW.trod enc' Tryd.prog W 0 (fun _ => true) true n 22 (List.take (Tryd.prog.cellsOf 22) [a0, a1, a2]) = some y0 := hg 0 _ rfl
      rw [c22] at h0
      have h1 : DataW.trod enc' Tryd.prog W 0 (fun _ => true) true n 23 (List.take (Tryd.prog.cellsOf 23) [a1, a2]) = some y1 := hg 1 _ rfl
      rw [c23] at h1
      have h2 : DataW.trod enc' Tryd.prog W 0 (fun _ => true) true n 24 (List.take (Tryd.prog.cellsOf 24) [a2]) = some y2 := hg 2 _ rfl
      rw [c24] at h2
      simp only [List.take] at h0 h1 h2
      have f0 : Fit 22 y0.1 := fit_field Tryd.underlying26 hf (i := 0) rfl rfl
      obtain ⟨l0, A0, k0, e0, R0, b0, g0⟩ := opns_api_Sig h0 f0
      cases e0
      have w0 : l0.length ≤ 17592186044416 := by rw [reach_eq] at b0; omega
      have f1 : Fit 23 y1.1 := fit_field Tryd.underlying26 hf (i := 1) rfl rfl
      obtain ⟨l1, A1, k1, e1, R1, b1, g1⟩ := opns_api_Class h1 f1
      cases e1
      have w1 : l1.length ≤ 17592186044416 := by rw [reach_eq] at b1; omega
      have f2 : Fit 24 y2.1 := fit_field Tryd.underlying26 hf (i := 2) rfl rfl
      obtain ⟨l2, A2, k2, e2, R2, b2, g2⟩ := opns_api_Func h2 f2
      cases e2
      have w2 : l2.length ≤ 17592186044416 := by rw [reach_eq] at b2; omega
      exact ⟨⟨l0, l1, l2⟩, (.cons R0 rfl (.cons R1 rfl (.cons R2 rfl .nil))), ⟨w0, w1, w2, g0, g1, g2⟩⟩

end
end Go.Proofs.YtpeafglbhjjbhaaDoor

