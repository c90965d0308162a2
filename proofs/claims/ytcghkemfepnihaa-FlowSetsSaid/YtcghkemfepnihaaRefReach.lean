import Derived.Test.YtcghkemfepnihaaLives
namespace Go.Proofs.Ytcghkemfepnihaa
open Go.RowKit

def nonneg (d : List Int) : List Bool := d.map fun x => decide (0 ≤ x)
theorem nonneg_snoc {d : List Int} {k : Nat} (h : k < d.length) : nonneg (d.take (k + 1)) = nonneg (d.take k) ++ [decide (0 ≤ d[k])] := by
  rw [nonneg, List.take_succ_eq_append_getElem h, List.map_append]; rfl
theorem nonneg_length (d : List Int) : (nonneg d).length = d.length := by simp [nonneg]
theorem nonneg_out {E : List (Int × Int)} {S : List Int} {n : Nat} {d : List Int} (h : IsDist E S n d) : RchOut E S n (nonneg d) := by
  refine ⟨by rw [nonneg_length, h.len], fun v hv => ?_⟩
  have hvd : v < d.length := by rw [h.len]; exact hv
  have e : (nonneg d).getD v false = decide (0 ≤ d.getD v 0) := by simp [nonneg, List.getD_eq_getElem?_getD, hvd]
  rw [e, decide_eq_true_eq]
  rcases h.at_ v hv with ⟨h1, h2⟩ | ⟨k, h1, h2, _⟩
  · rw [h1]; exact ⟨fun h => by omega, fun ⟨k, hk⟩ => absurd hk (h2 k)⟩
  · rw [h1]; exact ⟨fun _ => ⟨k, h2⟩, fun _ => by omega⟩
theorem rchOut_unique {E : List (Int × Int)} {S : List Int} {n : Nat} {a b : List Bool} (h : RchOut E S n a) (h' : RchOut E S n b) : a = b := by
  apply List.ext_getElem (by rw [h.len, h'.len])
  intro i h1 h2
  have e1 := h.at_ i (by rw [← h.len]; exact h1)
  have e2 := h'.at_ i (by rw [← h.len]; exact h1)
  rw [List.getD_eq_getElem?_getD, List.getElem?_eq_getElem h1] at e1
  rw [List.getD_eq_getElem?_getD, List.getElem?_eq_getElem h2] at e2
  simp only [Option.getD_some] at e1 e2
  rw [Bool.eq_iff_iff, e1, e2]

/-- both of the reference's Distances' ways -/
theorem dist_any (w : World) (n : Int) (v1 v2 : Value) (E : List (Int × Int)) (S : List Int) (h1 : Rd w v1 E.length (pairs E)) (h2 : Rd w v2 S.length (ints S)) :
    Calls Try.prog 18 #[I n, v1, v2] w fun e w' => ∃ r d, e = .returned (.tuple #[r, I (fitF n E S)]) ∧ Rd w' r d.length (ints d) ∧ Below w.heap.size w w' ∧ d.length ≤ 16384 ∧ (fitF n E S ≠ 0 → d = []) ∧ (∀ m : Nat, n = m → fitF n E S = 0 → IsDist E S m d) := by
  by_cases hf : fitF n E S = 0
  · obtain ⟨m, rfl, hm, F⟩ := fits_of hf
    refine (dist_good w m v1 v2 E S h1 h2 hf hm F).mono ?_
    rintro e w' ⟨d, r, rfl, hd, hr, hB⟩
    exact ⟨r, d, by rw [hf], by rw [hd.len]; exact hr, hB, by rw [hd.len]; exact hm, fun h => absurd hf h, fun k hk _ => (by obtain rfl : m = k := (by omega); exact hd)⟩
  · refine (dist_bad w n v1 v2 E S h1 h2 hf).mono ?_
    rintro e w' ⟨rfl, rfl⟩
    exact ⟨_, [], rfl, Rd.nil _, Below.refl _ _, by simp, fun _ => rfl, fun _ _ h => absurd h hf⟩

set_option maxHeartbeats 2000000 in
theorem refreach_any (w : World) (n : Int) (v1 v2 : Value) (E : List (Int × Int)) (S : List Int) (h1 : Rd w v1 E.length (pairs E)) (h2 : Rd w v2 S.length (ints S)) :
    Calls Try.prog 13 #[I n, v1, v2] w (ReachRes w n E S false) := by
  have hx := Lib.hid h1
  have hy := Lib.hid h2
  clear h1 h2
  go_enter Try.func13, Try.ntmps13
  go_wp2_with (go_at_call 18; refine (dist_any _ n _ _ E S hx.out hy.out).mono ?_; rintro e w1 ⟨r, d, rfl, hr, hB1, hdl, hnil, hd⟩; obtain ⟨A, c, rfl, hm⟩ := hr.form; have HR := Lib.hid hr; have HN := Lib.hid hnil; have HD := Lib.hid hd; clear hr hnil hd)
  have hO := own_start w1 4 1
  have hB2 : Below w.heap.size w (w1.alloc (.cells #[] 4)) := hB1.alloc hB1.size _
  go_loopw [10, 11] (fun r i wr => ∃ k : Nat, k ≤ d.length ∧ i = .int .i64 k ∧ wr.ownsRow w1.heap.size 4 1 r (nonneg (d.take k)).length (bools (nonneg (d.take k))) ∧ Below w.heap.size w wr ∧ Below w1.heap.size w1 wr) (fun _ i _ => d.length - (intOf i).toNat)
  case atStart => exact ⟨0, Nat.zero_le _, rfl, by simpa [nonneg, bools] using hO, hB2, below_alloc _ _⟩
  case round =>
    clear hO hB2
    obtain ⟨k, hk, rfl, hown, hB, hB3⟩ := hrel
    have hown := Lib.hid hown
    have hs1 := hB1.size
    have hs3 := hB3.size
    by_cases hlt : k < d.length
    · obtain ⟨b1, o1, _, e1, _, hb1, g1⟩ := HR.out.elem (by simp; omega)
      cases e1
      have f0 : wr.cell? ⟨b1, o1 + k, none⟩ = some (I d[k]) := (hB3.cell (p := ⟨b1, o1 + k, none⟩) hb1).trans (g1 _ _ (ints_at d k hlt))
      clear g1
      have hs := Lib.hid (nonneg_snoc hlt)
      have hlk : Hid ((nonneg (d.take k)).length = k) := Lib.hid (by rw [nonneg_length]; simp; omega)
      obtain ⟨b, hb⟩ : ∃ b, decide (0 ≤ d[k]) = b := ⟨_, rfl⟩
      have HBK := Lib.hid hb
      go_wp2_with (at_builtin; refine wpl_append1 rfl _ _ _ rfl E27 rfl (hown.out.alloc _) (u := .slice (some ⟨wr.heap.size, 0, none⟩) 1 1) (m := 1) (news := [.bool b]) rfl (Rd.fresh wr #[.bool b] 4 1 1 (by omega) (by omega)) rfl (by simp [Value.oneCell']) (by omega) (by rw [hlk.out]; omega) (by rw [hlk.out]; simp only [maxLen]; omega) (by simp; omega) ?_; intro g' cap' w2 hap)
      go_roundw
      case rel => exact ⟨k + 1, by omega, by go_num, by rw [hs.out, bools_append, HBK.out]; simpa [bools] using hap.own, hap.below (hB.alloc (by omega) _) (hown.out.alloc _) (by omega) (by simp; omega), hap.below (hB3.alloc hs3 _) (hown.out.alloc _) (Nat.le_refl _) (by simp; omega)⟩
      case measure => simp [intOf]; omega
    · go_wp2
      go_ret2
      have e : d.take k = d := List.take_of_length_le (by omega)
      rw [e] at hown
      exact ⟨_, nonneg d, rfl, Rd.of_own hown.out, hB, fun h => by rw [HN.out h]; rfl, fun m hm h => by rw [map_turn_false]; exact nonneg_out (HD.out m hm h)⟩
end Go.Proofs.Ytcghkemfepnihaa
