import Derived.Test.YtcghkemfepnihaaReach
namespace Go.Proofs.Ytcghkemfepnihaa
open Go.RowKit

theorem map_turn_false (E : List (Int × Int)) : E.map (turnB false) = E := by
  have h : turnB false = id := by funext p; rfl
  rw [h, List.map_id]
theorem rch_lives (k : Nat) : ∀ v : Int, Rn [(0, 1), (1, 2)] [1] k v → v = 1 ∨ v = 2 := by
  induction k with
  | zero => intro v h; simp [Rn] at h; exact .inl h
  | succ k ih =>
    rintro v ⟨u, hu, hr⟩
    have := ih u hr
    simp at hu
    omega
theorem rch_lives_iff (v : Int) : Rch [(0, 1), (1, 2)] [1] v ↔ v = 1 ∨ v = 2 := by
  refine ⟨fun ⟨k, h⟩ => rch_lives k v h, fun h => ?_⟩
  rcases h with rfl | rfl
  · exact ⟨0, by simp [Rn]⟩
  · exact ⟨1, 1, by simp, by simp [Rn]⟩
theorem lives_out {out : List Bool} (h : RchOut [(0, 1), (1, 2)] [1] 4 out) : out = [false, true, true, false] := by
  have hl := h.len
  match out, hl with
  | [a, b, c, d], _ =>
    have h0 := h.at_ 0 (by omega)
    have h1 := h.at_ 1 (by omega)
    have h2 := h.at_ 2 (by omega)
    have h3 := h.at_ 3 (by omega)
    rw [rch_lives_iff] at h0 h1 h2 h3
    simp at h0 h1 h2 h3
    simp [h0, h1, h2, h3]

set_option maxHeartbeats 2000000 in
theorem lives_any (w : World) : Calls Try.prog 11 #[] w fun e w' => e = .returned (.bool true) ∧ Below w.heap.size w w' := by
  have he : Hid (fitF 4 [(0, 1), (1, 2)] [1] = 0) := Lib.hid (by decide)
  have r1 := (Rd.fresh w #[I 0, I 1, I 1, I 2] 47 2 2 (by omega) (by omega)).alloc (.cells #[I 1] 3)
  have r2 := Rd.fresh (w.alloc (.cells #[I 0, I 1, I 1, I 2] 47)) #[I 1] 3 1 1 (by omega) (by omega)
  have R1 : Hid (Rd ((w.alloc (.cells #[I 0, I 1, I 1, I 2] 47)).alloc (.cells #[I 1] 3)) (.slice (some ⟨w.heap.size, 0, none⟩) 2 2) [((0 : Int), (1 : Int)), (1, 2)].length (pairs [(0, 1), (1, 2)])) := Lib.hid r1
  have R2 : Hid (Rd ((w.alloc (.cells #[I 0, I 1, I 1, I 2] 47)).alloc (.cells #[I 1] 3)) (.slice (some ⟨w.heap.size + 1, 0, none⟩) 1 1) [(1 : Int)].length (ints [1])) := Lib.hid (by simpa [ints] using r2)
  clear r1 r2
  have hB0 : Below w.heap.size w ((w.alloc (.cells #[I 0, I 1, I 1, I 2] 47)).alloc (.cells #[I 1] 3)) := (((Below.refl _ w).alloc (Nat.le_refl _) _).alloc (by simp) _)
  go_enter Try.func11, Try.ntmps11
  go_wp2_with (first
    | (go_at_call 9; refine (reach_any _ 4 _ _ [(0, 1), (1, 2)] [1] R1.out R2.out (by simp) (by simp)).mono ?_; rintro e w1 ⟨r, out, rfl, hr, hB1, _, hout⟩; rw [he.out]; have hO := lives_out (by have := hout 4 rfl he.out; rwa [map_turn_false] at this); have HR : Hid (Rd w1 r 4 (bools [false, true, true, false])) := (by subst hO; exact hr); obtain ⟨Ar, cr, rfl, _⟩ := HR.out.form; have HR2 := Lib.hid (HR.out.alloc (.cells #[.bool false, .bool true, .bool true, .bool false] 4)); have HF := Lib.hid (Rd.fresh w1 #[.bool false, .bool true, .bool true, .bool false] 4 4 4 (by omega) (by omega)); clear hout hr hO)
    | (go_at_call 16; refine (same_any _ _ _ [false, true, true, false] [false, true, true, false] HR2.out HF.out).mono ?_; rintro e w2 ⟨rfl, hB2⟩))
  go_ret
  have b1 := hB1.size
  simp at b1
  exact ⟨rfl, below_step (below_step (below_step hB0 hB1 (by simp; omega)) (below_alloc _ _) (by omega)) hB2 (by simp; omega)⟩
end Go.Proofs.Ytcghkemfepnihaa
