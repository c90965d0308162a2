import Derived.Test.YtakpikoffbgjfaaHG
import Derived.Laws.ResultCell
namespace Go.Proofs.Ytakpikoffbgjfaa
open Go.RowKit

theorem vvs_at (l : List VV) : ∀ (k : Nat) (v : VV), l[k]? = some v → (vvs l)[k * 3]? = some (I v.n) ∧ (vvs l)[k * 3 + 1]? = some (.string v.s) ∧ (vvs l)[k * 3 + 2]? = some (I v.r) := by
  induction l with
  | nil => intro k v h; simp at h
  | cons x l ih =>
    intro k v h
    cases k with
    | zero => simp at h; subst h; simp [vvs, VV.cs]
    | succ k =>
      have := ih k v (by simpa using h)
      rw [show (k + 1) * 3 = k * 3 + 1 + 1 + 1 by omega]
      simpa [vvs, VV.cs] using this
def GetRes (w : World) (M : HM) (r i : Int) (e : Ending) (w' : World) : Prop :=
  ∃ v : VV, e = .returned (.tuple #[.agg #[I v.n, .string v.s, I v.r], I (valF M r i)]) ∧ Below w.heap.size w w' ∧ (valF M r i ≠ 0 → v = V0) ∧
    (valF M r i = 0 → ∃ (j k : Nat) (t : Th), r = j + 1 ∧ i = k ∧ M.things[j]? = some t ∧ t.vals[k]? = some v)
set_option maxHeartbeats 4000000 in
set_option maxRecDepth 100000 in
theorem get_any (w : World) (F : Nat → Prop) (p : Nat) (M : HM) (tv fv : Value) (qs : List TQ) (r i : Int) (h : MemW w F p M tv fv qs) (hs : M.frames.Pairwise (· < ·)) (hfl : M.frames.length ≤ 1000000000) (hth : M.things.length ≤ 1000000000) :
    Calls Try.prog 11 #[P0 p, I r, I i] w (GetRes w M r i) := by
  have HV := Lib.hid (value_any (w.alloc (.cells #[I 0, .string ⟨#[]⟩, I 0] 30)) F p M tv fv qs r i (h.below (below_alloc w _)) hs hfl hth)
  have HH := Lib.hid (h.below (below_alloc w (.cells #[I 0, .string ⟨#[]⟩, I 0] 30)))
  clear h hs
  by_cases hw : valF M r i = 0
  · have HW := Lib.hid hw
    clear hw
    go_enter Try.func11, Try.ntmps11
    go_wp2_with fail
    refine HV.out.mono ?_
    rintro e w1 ⟨q, ptr, rfl, rfl, _, hp⟩
    obtain ⟨j, k, cb, t, x, rfl, rfl, htt, hq, hcb, hk, rfl⟩ := hp HW.out
    obtain ⟨v, hv⟩ : ∃ v, t.vals[k]? = some v := ⟨_, List.getElem?_eq_getElem hk⟩
    have hT := HH.out.each j t x htt hq
    obtain ⟨a0, a1, a2⟩ := vvs_at t.vals k v hv
    obtain ⟨W, hW⟩ : ∃ W, w.alloc (.cells #[.int .i64 0, .string ⟨#[]⟩, .int .i64 0] 30) = W := ⟨_, rfl⟩
    have hA : Arr W w.heap.size 30 [I 0, .string ⟨#[]⟩, I 0] := by rw [← hW]; exact Arr.new w 30 _
    have hB : Below w.heap.size w W := by rw [← hW]; exact below_alloc w _
    have cl : ∀ (n : Nat) (u : Value), (vvs t.vals)[n]? = some u → (W.drewN q).cell? ⟨cb, n, none⟩ = some u := fun n u hu => by
      have := hT.cells.cells (g := cb) hcb n u hu
      rw [add_plain', Nat.zero_add] at this
      rw [← hW]
      exact this
    have b0 := cl _ _ a0
    have b1 := cl _ _ a1
    have b2 := cl _ _ a2
    have x0 : (W.drewN q).cell? ⟨w.heap.size, 0, none⟩ = some (I 0) := hA.cell 0
    have x1 : (W.drewN q).cell? ⟨w.heap.size, 1, none⟩ = some (.string ⟨#[]⟩) := hA.cell 1
    have x2 : (W.drewN q).cell? ⟨w.heap.size, 2, none⟩ = some (I 0) := hA.cell 2
    have f0 : (W.drewN q).frozen? ⟨w.heap.size, 0, none⟩ = false := hA.frozen 0
    have f1 : (W.drewN q).frozen? ⟨w.heap.size, 1, none⟩ = false := hA.frozen 1
    have f2 : (W.drewN q).frozen? ⟨w.heap.size, 2, none⟩ = false := hA.frozen 2
    rw [HW.out, hW]
    have HA := Lib.hid hA
    have HB := Lib.hid hB
    have HTT := Lib.hid htt
    have HVV := Lib.hid hv
    clear cl a0 a1 a2 hp htt hq hv hA hB hW hT
    go_wp2
    refine bodyPost_ret (v := .tuple #[.agg #[I v.n, .string v.s, I v.r], I 0]) ?_ rfl ⟨v, by rw [HW.out], ?_, fun h => absurd HW.out h, fun _ => ⟨j, k, t, rfl, rfl, HTT.out, HVV.out⟩⟩
    · rw [results_cell_tmp rfl]
      go_simp
    · exact (((HB.out.trans (below_drewN (Below.refl _ _) q)).setCell (Nat.le_refl _) _).setCell (Nat.le_refl _) _).setCell (Nat.le_refl _) _
  · have hd : (valF M r i != 0) = true := ne_t hw
    have HW := Lib.hid hw
    clear hw
    go_enter Try.func11, Try.ntmps11
    go_wp2_with fail
    refine HV.out.mono ?_
    rintro e w1 ⟨q, ptr, rfl, rfl, hp, _⟩
    rw [hp HW.out]
    obtain ⟨W, hW⟩ : ∃ W, w.alloc (.cells #[.int .i64 0, .string ⟨#[]⟩, .int .i64 0] 30) = W := ⟨_, rfl⟩
    have hA : Arr W w.heap.size 30 [I 0, .string ⟨#[]⟩, I 0] := by rw [← hW]; exact Arr.new w 30 _
    have hB : Below w.heap.size w W := by rw [← hW]; exact below_alloc w _
    have x0 : (W.drewN q).cell? ⟨w.heap.size, 0, none⟩ = some (I 0) := hA.cell 0
    have x1 : (W.drewN q).cell? ⟨w.heap.size, 1, none⟩ = some (.string ⟨#[]⟩) := hA.cell 1
    have x2 : (W.drewN q).cell? ⟨w.heap.size, 2, none⟩ = some (I 0) := hA.cell 2
    have f0 : (W.drewN q).frozen? ⟨w.heap.size, 0, none⟩ = false := hA.frozen 0
    have f1 : (W.drewN q).frozen? ⟨w.heap.size, 1, none⟩ = false := hA.frozen 1
    have f2 : (W.drewN q).frozen? ⟨w.heap.size, 2, none⟩ = false := hA.frozen 2
    rw [hW]
    have HB := Lib.hid hB
    clear hp hA hB hW
    go_wp2
    refine bodyPost_ret (v := .tuple #[.agg #[I 0, .string ⟨#[]⟩, I 0], I (valF M r i)]) ?_ rfl ⟨V0, rfl, ?_, fun _ => rfl, fun h => absurd h HW.out⟩
    · rw [results_cell_tmp rfl]
      go_simp
    · exact (((HB.out.trans (below_drewN (Below.refl _ _) q)).setCell (Nat.le_refl _) _).setCell (Nat.le_refl _) _).setCell (Nat.le_refl _) _
end Go.Proofs.Ytakpikoffbgjfaa
