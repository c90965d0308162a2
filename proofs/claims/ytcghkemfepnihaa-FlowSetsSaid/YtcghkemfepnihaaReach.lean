import Derived.Test.YtcghkemfepnihaaFit
import Derived.Test.YtcghkemfepnihaaMet
namespace Go.Proofs.Ytcghkemfepnihaa
open Go.RowKit

/-- What Reach and Back answer. -/
def Rch (E : List (Int × Int)) (S : List Int) (v : Int) : Prop := ∃ k, Rn E S k v
structure RchOut (E : List (Int × Int)) (S : List Int) (n : Nat) (out : List Bool) : Prop where
  len : out.length = n
  at_ : ∀ v : Nat, v < n → (out.getD v false = true ↔ Rch E S v)
theorem turned_rng {n : Nat} {E : List (Int × Int)} {back : Bool} {S : List Int} (F : Fits n E S) {u v : Int} (h : (u, v) ∈ E.map (turnB back)) : (0 ≤ u ∧ u < n) ∧ (0 ≤ v ∧ v < n) := by
  obtain ⟨⟨p, q⟩, hp, e⟩ := List.mem_map.1 h
  have := F.e _ hp
  cases back
  · obtain ⟨rfl, rfl⟩ : p = u ∧ q = v := by simpa [turnB] using e
    exact this
  · obtain ⟨rfl, rfl⟩ : q = u ∧ p = v := by simpa [turnB] using e
    exact ⟨this.2, this.1⟩
theorem rn_met {n : Nat} {E : List (Int × Int)} {back : Bool} {S : List Int} (F : Fits n E S) : ∀ k v, Rn (E.map (turnB back)) S k v → MetBy (graphF n E back) S v := by
  intro k
  induction k with
  | zero => exact fun v h => .start h
  | succ k ih =>
    rintro v ⟨u, hu, hr⟩
    have hu0 : 0 ≤ u := (turned_rng F hu).1.1
    refine .step (ih u hr) hu0 ((mem_graph F.e _ _).2 ?_)
    rwa [Int.toNat_of_nonneg hu0]
theorem met_rn {n : Nat} {E : List (Int × Int)} {back : Bool} {S : List Int} (F : Fits n E S) {v : Int} (h : MetBy (graphF n E back) S v) : ∃ k, Rn (E.map (turnB back)) S k v := by
  induction h with
  | start h => exact ⟨0, h⟩
  | step _ h0 hb ih =>
    obtain ⟨k, hk⟩ := ih
    have := (mem_graph F.e _ _).1 hb
    rw [Int.toNat_of_nonneg h0] at this
    exact ⟨k + 1, _, this, hk⟩
theorem rch_out {n : Nat} {E : List (Int × Int)} {back : Bool} {S : List Int} {out : List Bool} (F : Fits n E S) (h : MetOut (graphF n E back) S out) : RchOut (E.map (turnB back)) S n out :=
  ⟨by rw [h.len, graphF_length], fun v _ => ⟨fun hv => met_rn F ((h.at_ v).1 hv), fun ⟨k, hk⟩ => (h.at_ v).2 (rn_met F k v hk)⟩⟩
theorem inRows_graph {n : Nat} {E : List (Int × Int)} {back : Bool} {S : List Int} (F : Fits n E S) : InRows (graphF n E back) := by
  intro a b hb
  rw [graphF_length]
  exact (turned_rng F ((mem_graph F.e _ _).1 hb)).2

def ReachRes (w : World) (n : Int) (E : List (Int × Int)) (S : List Int) (back : Bool) (e : Ending) (w' : World) : Prop :=
  ∃ r out, e = .returned (.tuple #[r, I (fitF n E S)]) ∧ Rd w' r out.length (bools out) ∧ Below w.heap.size w w' ∧ (fitF n E S ≠ 0 → out = []) ∧ (∀ m : Nat, n = m → fitF n E S = 0 → RchOut (E.map (turnB back)) S m out)

set_option maxHeartbeats 2000000 in
theorem reach_any (w : World) (n : Int) (v1 v2 : Value) (E : List (Int × Int)) (S : List Int) (h1 : Rd w v1 E.length (pairs E)) (h2 : Rd w v2 S.length (ints S)) (hb : (S.length + E.length) * 8 ≤ 140737488355328) (hE1 : E.length ≤ 1000000) :
    Calls Try.prog 9 #[I n, v1, v2] w (ReachRes w n E S false) := by
  obtain ⟨A1, c1, rfl, hm1⟩ := h1.form
  obtain ⟨A2, c2, rfl, hm2⟩ := h2.form
  have hx := Lib.hid h1
  have hy := Lib.hid h2
  have c0 := cell_alloc_l (.cells #[.slice A2 S.length c2] 26) (cell_new_l w (.slice A1 E.length c1) 24).1
  have c1' := (cell_new_l (w.alloc (.cells #[.slice A1 E.length c1] 24)) (.slice A2 S.length c2) 26).1
  simp only [World.size_alloc] at c1'
  have C0 := Lib.hid c0
  have C1 := Lib.hid c1'
  have hx1 := Lib.hid ((h1.alloc (.cells #[.slice A1 E.length c1] 24)).alloc (.cells #[.slice A2 S.length c2] 26))
  have hy1 := Lib.hid ((h2.alloc (.cells #[.slice A1 E.length c1] 24)).alloc (.cells #[.slice A2 S.length c2] 26))
  have hB0 : Below w.heap.size w ((w.alloc (.cells #[.slice A1 E.length c1] 24)).alloc (.cells #[.slice A2 S.length c2] 26)) := (((Below.refl _ w).alloc (Nat.le_refl _) _).alloc (by simp) _)
  clear h1 h2 c0 c1'
  by_cases hf : fitF n E S = 0
  · have hf' : (fitF n E S != 0) = false := ne_f hf
    obtain ⟨m, rfl, hm, F⟩ := fits_of hf
    have HF := Lib.hid F
    have HE := Lib.hid hf
    clear hf F
    go_enter Try.func9, Try.ntmps9
    go_wp2_with (first
      | (go_at_call 23; refine (named_any _ _ _ ⟨_, _, _, rfl⟩ ⟨_, _, _, rfl⟩).mono ?_; rintro e w' ⟨rfl, rfl⟩)
      | (go_at_call 22; refine (fit22_any _ _ _ _ _ E S _ C0.out C1.out hx1.out hy1.out).mono ?_; rintro e w1 ⟨rfl, hB1⟩; have hx2 := Lib.hid (hx1.out.below hB1); have hy2 := Lib.hid (hy1.out.below hB1))
      | (go_at_call 25; refine (graph_any _ m _ E false hx2.out hm HF.out.e (by omega)).mono ?_; rintro e w2 ⟨rg, rfl, hg, hB2⟩; have hy3 := Lib.hid (hy2.out.below hB2))
      | (go_at_call 24; refine (met_any _ _ _ _ S hg hy3.out (by rw [graphF_length]; exact hm) (inRows_graph HF.out) (by rw [graphF_length]; exact HF.out.s) (by have := total_graph m E false; omega)).mono ?_; rintro e w3 ⟨r, out, rfl, hr, hmet, hB3⟩))
    go_ret2
    have hl : out.length = (graphF m E false).length := hmet.len
    refine ⟨_, out, by rw [HE.out]; rfl, by rw [hl]; exact hr, ?_, fun h => absurd HE.out h, fun k hk _ => (by obtain rfl : m = k := (by omega); exact rch_out HF.out hmet)⟩
    have b1 := hB1.size
    have b2 := hB2.size
    simp at b1
    exact below_step (below_step (below_step hB0 hB1 (by simp; omega)) hB2 (by omega)) hB3 (by omega)
  · have hf' : (fitF n E S != 0) = true := ne_t hf
    go_enter Try.func9, Try.ntmps9
    go_wp2_with (first
      | (go_at_call 23; refine (named_any _ _ _ ⟨_, _, _, rfl⟩ ⟨_, _, _, rfl⟩).mono ?_; rintro e w' ⟨rfl, rfl⟩)
      | (go_at_call 22; refine (fit22_any _ _ _ _ _ E S _ C0.out C1.out hx1.out hy1.out).mono ?_; rintro e w1 ⟨rfl, hB1⟩))
    go_ret2
    exact ⟨_, [], rfl, Rd.nil _, below_step hB0 hB1 (by simp; omega), fun _ => rfl, fun _ _ h => absurd h hf⟩
set_option maxHeartbeats 2000000 in
theorem back_any (w : World) (n : Int) (v1 v2 : Value) (E : List (Int × Int)) (S : List Int) (h1 : Rd w v1 E.length (pairs E)) (h2 : Rd w v2 S.length (ints S)) (hb : (S.length + E.length) * 8 ≤ 140737488355328) (hE1 : E.length ≤ 1000000) :
    Calls Try.prog 14 #[I n, v1, v2] w (ReachRes w n E S true) := by
  obtain ⟨A1, c1, rfl, hm1⟩ := h1.form
  obtain ⟨A2, c2, rfl, hm2⟩ := h2.form
  have hx := Lib.hid h1
  have hy := Lib.hid h2
  have c0 := cell_alloc_l (.cells #[.slice A2 S.length c2] 26) (cell_new_l w (.slice A1 E.length c1) 24).1
  have c1' := (cell_new_l (w.alloc (.cells #[.slice A1 E.length c1] 24)) (.slice A2 S.length c2) 26).1
  simp only [World.size_alloc] at c1'
  have C0 := Lib.hid c0
  have C1 := Lib.hid c1'
  have hx1 := Lib.hid ((h1.alloc (.cells #[.slice A1 E.length c1] 24)).alloc (.cells #[.slice A2 S.length c2] 26))
  have hy1 := Lib.hid ((h2.alloc (.cells #[.slice A1 E.length c1] 24)).alloc (.cells #[.slice A2 S.length c2] 26))
  have hB0 : Below w.heap.size w ((w.alloc (.cells #[.slice A1 E.length c1] 24)).alloc (.cells #[.slice A2 S.length c2] 26)) := (((Below.refl _ w).alloc (Nat.le_refl _) _).alloc (by simp) _)
  clear h1 h2 c0 c1'
  by_cases hf : fitF n E S = 0
  · have hf' : (fitF n E S != 0) = false := ne_f hf
    obtain ⟨m, rfl, hm, F⟩ := fits_of hf
    have HF := Lib.hid F
    have HE := Lib.hid hf
    clear hf F
    go_enter Try.func14, Try.ntmps14
    go_wp2_with (first
      | (go_at_call 23; refine (named_any _ _ _ ⟨_, _, _, rfl⟩ ⟨_, _, _, rfl⟩).mono ?_; rintro e w' ⟨rfl, rfl⟩)
      | (go_at_call 22; refine (fit22_any _ _ _ _ _ E S _ C0.out C1.out hx1.out hy1.out).mono ?_; rintro e w1 ⟨rfl, hB1⟩; have hx2 := Lib.hid (hx1.out.below hB1); have hy2 := Lib.hid (hy1.out.below hB1))
      | (go_at_call 25; refine (graph_any _ m _ E true hx2.out hm HF.out.e (by omega)).mono ?_; rintro e w2 ⟨rg, rfl, hg, hB2⟩; have hy3 := Lib.hid (hy2.out.below hB2))
      | (go_at_call 24; refine (met_any _ _ _ _ S hg hy3.out (by rw [graphF_length]; exact hm) (inRows_graph HF.out) (by rw [graphF_length]; exact HF.out.s) (by have := total_graph m E true; omega)).mono ?_; rintro e w3 ⟨r, out, rfl, hr, hmet, hB3⟩))
    go_ret2
    have hl : out.length = (graphF m E true).length := hmet.len
    refine ⟨_, out, by rw [HE.out]; rfl, by rw [hl]; exact hr, ?_, fun h => absurd HE.out h, fun k hk _ => (by obtain rfl : m = k := (by omega); exact rch_out HF.out hmet)⟩
    have b1 := hB1.size
    have b2 := hB2.size
    simp at b1
    exact below_step (below_step (below_step hB0 hB1 (by simp; omega)) hB2 (by omega)) hB3 (by omega)
  · have hf' : (fitF n E S != 0) = true := ne_t hf
    go_enter Try.func14, Try.ntmps14
    go_wp2_with (first
      | (go_at_call 23; refine (named_any _ _ _ ⟨_, _, _, rfl⟩ ⟨_, _, _, rfl⟩).mono ?_; rintro e w' ⟨rfl, rfl⟩)
      | (go_at_call 22; refine (fit22_any _ _ _ _ _ E S _ C0.out C1.out hx1.out hy1.out).mono ?_; rintro e w1 ⟨rfl, hB1⟩))
    go_ret2
    exact ⟨_, [], rfl, Rd.nil _, below_step hB0 hB1 (by simp; omega), fun _ => rfl, fun _ _ h => absurd h hf⟩
end Go.Proofs.Ytcghkemfepnihaa
