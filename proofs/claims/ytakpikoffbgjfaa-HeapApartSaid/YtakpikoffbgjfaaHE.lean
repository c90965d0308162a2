import Derived.Test.YtakpikoffbgjfaaHD
import Derived.Laws.OwnMore
namespace Go.Proofs.Ytakpikoffbgjfaa
open Go.RowKit

def V0 : VV := ⟨0, ⟨#[]⟩, 0⟩
theorem made_vvs (n : Nat) : (madeCells #[I 0, .string ⟨#[]⟩, I 0] (n * 3)).toList = vvs (List.replicate n V0) := by
  have key : ∀ n, ((List.range (n * 3)).map fun i => (#[I 0, Value.string ⟨#[]⟩, I 0])[i % 3]!) = vvs (List.replicate n V0) := by
    intro n
    induction n with
    | zero => rfl
    | succ n ih =>
      rw [show (n + 1) * 3 = n * 3 + 1 + 1 + 1 by omega, List.range_succ, List.range_succ, List.range_succ, List.replicate_succ']
      simp only [List.map_append, ih, List.map_cons, List.map_nil, vvs, List.flatMap_append, List.append_assoc]
      congr 1
      have e0 : n * 3 % 3 = 0 := by omega
      have e1 : (n * 3 + 1) % 3 = 1 := by omega
      have e2 : (n * 3 + 1 + 1) % 3 = 2 := by omega
      simp [e0, e1, e2, VV.cs, V0]
  rw [← key]
  simp [madeCells]
def sliceT (n : Nat) : Th := ⟨List.replicate n V0, false, [], fun _ => 0, 0⟩
def tableT : Th := ⟨[], true, [], fun _ => 0, 0⟩
def sliceF (M : HM) (n : Int) (stack : Bool) : HM × Int × Int := if n < 0 ∨ 1024 < n then (M, 0, 2) else madeF M (sliceT n.toNat) stack
def SliceRes (w : World) (F : Nat → Prop) (p : Nat) (_M : HM) (fv : Value) (X : HM × Int × Int) (e : Ending) (w' : World) : Prop :=
  ∃ F' tv' qs', e = .returned (.tuple #[I X.2.1, I X.2.2]) ∧ MemW w' F' p X.1 tv' fv qs' ∧ Chg F w w' ∧ ∀ k, F' k → F k ∨ w.heap.size ≤ k
/-- What a call of made needs to know of a memory. -/
structure Calm (M : HM) : Prop where
  room : Room M
  fr : M.frames ≠ []
  fl : M.frames.length ≤ 1000000000
  th : M.things.length ≤ 1000000000
  m0 : 0 ≤ M.makes
  m1 : M.makes ≤ 1000000000000
set_option maxHeartbeats 2000000 in
theorem slice_any (w : World) (F : Nat → Prop) (p : Nat) (M : HM) (tv fv : Value) (qs : List TQ) (n : Int) (stack : Bool) (h : MemW w F p M tv fv qs) (hc : Calm M) :
    Calls Try.prog 9 #[P0 p, I n, .bool stack] w (SliceRes w F p M fv (sliceF M n stack)) := by
  have HM := Lib.hid h
  by_cases h1 : n < 0
  · have d1 : decide (n < 0) = true := de_t h1
    have e : sliceF M n stack = (M, 0, 2) := by rw [sliceF, if_pos (.inl h1)]
    have HE := Lib.hid e
    clear h e
    go_enter Try.func9, Try.ntmps9
    go_wp2
    go_ret2
    exact ⟨F, tv, qs, by rw [HE.out]; rfl, by rw [HE.out]; exact HM.out, Chg.refl F w, fun k hk => .inl hk⟩
  · have d1 : decide (n < 0) = false := de_f h1
    by_cases h2 : 1024 < n
    · have d2 : decide (1024 < n) = true := de_t h2
      have e : sliceF M n stack = (M, 0, 2) := by rw [sliceF, if_pos (.inr h2)]
      have HE := Lib.hid e
      clear h e
      go_enter Try.func9, Try.ntmps9
      go_wp2
      go_ret2
      exact ⟨F, tv, qs, by rw [HE.out]; rfl, by rw [HE.out]; exact HM.out, Chg.refl F w, fun k hk => .inl hk⟩
    · have d2 : decide (1024 < n) = false := de_f h2
      have e : sliceF M n stack = madeF M (sliceT n.toNat) stack := by rw [sliceF, if_neg (by omega)]
      obtain ⟨m, rfl⟩ : ∃ m : Nat, n = m := ⟨n.toNat, by omega⟩
      rw [Int.toNat_natCast] at e
      have HE := Lib.hid e
      obtain ⟨i0, hi0, hz0, hs0, hb0⟩ := info_parts (show (Try.prog.info? 30).map (fun i => (i.zero, i.size, i.bytes)) = some (some (.agg #[.int .i64 0, .string ⟨#[]⟩, .int .i64 0]), 3, 32) by kernel_rfl)
      obtain ⟨w1, hrun, hown, hgr⟩ := run_makeSlice_full (P := Try.prog) (w := w) 0 53 30 i0 _ 3 Try.underlying53 hi0 hz0 hs0 .i64 .i64 m (by omega) (by rw [hb0]; omega) (by simp [maxLen]; omega) (Nat.zero_le _)
      have hB1 : Below w.heap.size w w1 := ⟨hgr.os, hgr.tape, hgr.output, hgr.size, fun k hk => hgr.block k hk (by simp)⟩
      have hT : ThW w1 (fun k => k = w.heap.size) (sliceT m) ⟨.slice (some ⟨w.heap.size, 0, none⟩) m m, .slice none 0 0, .map none, 0⟩ := by
        refine ⟨rfl, ?_, (fun k hk => by cases hk; rfl), World.ownsRow_nil _ _ _ _, (fun k hk => by cases hk), .inl ⟨rfl, rfl⟩⟩
        have h3 := hown
        have hz : (Value.agg #[.int .i64 0, .string ⟨#[]⟩, .int .i64 0]).cells = #[I 0, .string ⟨#[]⟩, I 0] := rfl
        rw [hz, made_vvs] at h3
        simpa [sliceT] using h3
      have HT := Lib.hid hT
      have HB := Lib.hid hB1
      have hlt := (hown.lt w.heap.size rfl).2
      clear h e hown hgr hT hB1
      go_enter Try.func9, Try.ntmps9
      go_wp2_with fail
      refine (made_any w1 F (fun k => k = w.heap.size) p M tv fv qs (sliceT m) _ _ _ stack (HM.out.below HB.out) HT.out (fun k hk => ⟨by rw [hk]; exact hlt, fun hF => by have := HM.out.lt k hF; omega⟩) rfl hc.room hc.fr hc.fl hc.th (by simp [sliceT]; omega) hc.m0 hc.m1).mono ?_
      rintro e w2 ⟨F', tv', qs', rfl, hm2, hc2, hn2⟩
      go_wp2
      go_ret2
      refine ⟨F', tv', qs', by rw [HE.out]; rfl, by rw [HE.out]; exact hm2, Chg.trans (F := fun _ => False) ⟨HB.out.os, HB.out.tape, HB.out.output, HB.out.size, fun k hk _ => HB.out.block k hk⟩ hc2 (fun _ h => h.elim) (fun _ h _ => h), fun k hk => ?_⟩
      rcases hn2 k hk with h | h | h
      · exact .inl h
      · exact .inr (by omega)
      · exact .inr (by have := HB.out.size; omega)
set_option maxHeartbeats 2000000 in
theorem table_any (w : World) (F : Nat → Prop) (p : Nat) (M : HM) (tv fv : Value) (qs : List TQ) (stack : Bool) (h : MemW w F p M tv fv qs) (hc : Calm M) :
    Calls Try.prog 13 #[P0 p, .bool stack] w (SliceRes w F p M fv (madeF M tableT stack)) := by
  have HM := Lib.hid h
  have hmm := @run_makeMap Try.prog
  have hB1 : Below w.heap.size w (w.alloc (.map #[] 0)) := below_alloc w _
  have hT : ThW (w.alloc (.map #[] 0)) (fun k => k = w.heap.size) tableT ⟨.slice none 0 0, .slice none 0 0, .map (some w.heap.size), 0⟩ := by
    refine ⟨rfl, World.ownsRow_nil _ _ _ _, (fun k hk => by cases hk), World.ownsRow_nil _ _ _ _, (fun k hk => by cases hk), .inr ⟨rfl, _, _, rfl, rfl, World.ownsMap_made _ _ _ _, rfl, fun x hx => ⟨rfl, rfl⟩⟩⟩
  have HT := Lib.hid hT
  have HB := Lib.hid hB1
  clear h hT hB1
  go_enter Try.func13, Try.ntmps13
  go_wp2_with fail
  refine (made_any _ F (fun k => k = w.heap.size) p M tv fv qs tableT _ _ _ stack (HM.out.below HB.out) HT.out (fun k hk => ⟨by rw [hk]; simp, fun hF => by have := HM.out.lt k hF; omega⟩) rfl hc.room hc.fr hc.fl hc.th (by simp [tableT]) hc.m0 hc.m1).mono ?_
  rintro e w2 ⟨F', tv', qs', rfl, hm2, hc2, hn2⟩
  go_wp2
  go_ret2
  refine ⟨F', tv', qs', rfl, hm2, Chg.trans (F := fun _ => False) ⟨HB.out.os, HB.out.tape, HB.out.output, HB.out.size, fun k hk _ => HB.out.block k hk⟩ hc2 (fun _ h => h.elim) (fun _ h _ => h), fun k hk => ?_⟩
  rcases hn2 k hk with h | h | h
  · exact .inl h
  · exact .inr (by omega)
  · exact .inr (by have := HB.out.size; omega)
end Go.Proofs.Ytakpikoffbgjfaa
