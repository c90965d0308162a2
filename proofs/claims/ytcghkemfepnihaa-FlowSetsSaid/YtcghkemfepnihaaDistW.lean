import Derived.Test.YtcghkemfepnihaaDist
import Derived.Deep.Light
import Derived.Deep.OwnRows
namespace Go.Proofs.Ytcghkemfepnihaa
open Go.RowKit

theorem Try.info3 : (Try.prog.info? 3).map (fun i => (i.zero, i.size, i.bytes)) = some (some (.int .i64 0), 1, 8) := by kernel_rfl
theorem getD_ints {d : List Int} {v : Nat} (h : v < d.length) : (ints d)[v]? = some (I (d.getD v 0)) := by
  rw [ints_at d v h, List.getD_eq_getElem?_getD, List.getElem?_eq_getElem h]; rfl
theorem ints_set (d : List Int) (i : Nat) (x : Int) : (ints d).set i (I x) = ints (d.set i x) := by simp [ints, List.map_set]
theorem fill_step (k m : Nat) (h : k < m) : (List.replicate k (-1 : Int) ++ List.replicate (m - k) 0).set k (-1) = List.replicate (k + 1) (-1) ++ List.replicate (m - (k + 1)) 0 := by
  rw [List.set_append_right _ _ (by simp), show m - k = (m - (k + 1)) + 1 by omega, List.replicate_succ]
  simp [List.replicate_succ']

/-- what a pair of edges' cells hold, in a later world -/
theorem edge_cells {w wr : World} {b o : Nat} {E : List (Int × Int)} {B : Nat} (hB : Below B w wr) (hb : b < B) (h : ∀ j u, (pairs E)[j]? = some u → w.cell? ⟨b, o + j, none⟩ = some u) (k : Nat) (hk : k < E.length) :
    wr.cell? ⟨b, o + k * 2, none⟩ = some (I E[k].1) ∧ wr.cell? ⟨b, o + k * 2 + 1, none⟩ = some (I E[k].2) :=
  ⟨(hB.cell (p := ⟨b, o + k * 2, none⟩) hb).trans (h _ _ (pairs_at0 E k hk)), (hB.cell (p := ⟨b, o + k * 2 + 1, none⟩) hb).trans (by rw [Nat.add_assoc]; exact h _ _ (pairs_at1 E k hk))⟩

/-- The state at the head of the reference's rounds. -/
structure Head (E : List (Int × Int)) (S : List Int) (n r : Nat) (more : Bool) (d : List Int) : Prop where
  len : d.length = n
  go : more = true → ∀ v : Nat, v < n → (d.getD v 0 = -1 ∧ ∀ k, k ≤ r → ¬ Rn E S k v) ∨ (∃ k : Nat, k ≤ r ∧ d.getD v 0 = k ∧ Rn E S k v ∧ ∀ j, j < k → ¬ Rn E S j v)
  stop : more = false → IsDist E S n d

def Res (w : World) (E : List (Int × Int)) (S : List Int) (m : Nat) (e : Ending) (w' : World) : Prop :=
  ∃ d r, e = .returned (.tuple #[r, I 0]) ∧ IsDist E S m d ∧ Rd w' r m (ints d) ∧ Below w.heap.size w w'

set_option maxHeartbeats 1000000 in
theorem dist_bad (w : World) (n : Int) (v1 v2 : Value) (E : List (Int × Int)) (S : List Int) (h1 : Rd w v1 E.length (pairs E)) (h2 : Rd w v2 S.length (ints S)) (hf : fitF n E S ≠ 0) :
    Calls Try.prog 18 #[I n, v1, v2] w fun e w' => e = .returned (.tuple #[.slice none 0 0, I (fitF n E S)]) ∧ w = w' := by
  have hf' : (fitF n E S != 0) = true := ne_t hf
  go_enter Try.func18, Try.ntmps18
  go_wp2_with (go_at_call 26; refine (fit26_any _ _ _ _ E S h1 h2).mono ?_; rintro e w' ⟨rfl, rfl⟩)
  go_ret2
  exact ⟨rfl, rfl⟩

set_option maxHeartbeats 4000000 in
set_option maxRecDepth 100000 in
theorem dist_good (w : World) (m : Nat) (v1 v2 : Value) (E : List (Int × Int)) (S : List Int) (h1 : Rd w v1 E.length (pairs E)) (h2 : Rd w v2 S.length (ints S)) (hf : fitF m E S = 0) (hm : m ≤ 16384) (F : Fits m E S) :
    Calls Try.prog 18 #[I m, v1, v2] w (Res w E S m) := by
  obtain ⟨A1, c1, rfl, hm1⟩ := h1.form
  obtain ⟨A2, c2, rfl, hm2⟩ := h2.form
  have hmk := run_make_row' (P := Try.prog) 26 3 (.int .i64 0) 8 Try.underlying26 Try.info3 rfl .i64 .i64 m (by omega) (by omega)
  have hx := Lib.hid h1
  have hy := Lib.hid h2
  have HF := Lib.hid F
  clear h1 h2 F
  go_enter Try.func18, Try.ntmps18
  go_wp2_with (go_at_call 26; refine (fit26_any _ _ _ _ E S hx.out hy.out).mono ?_; rintro e w' ⟨rfl, rfl⟩)
  clear hmk
  go_loopw [10] (fun i wr => ∃ k : Nat, k ≤ m ∧ i = .int .i64 k ∧ Arr wr w.heap.size 3 (ints (List.replicate k (-1) ++ List.replicate (m - k) 0)) ∧ Below w.heap.size w wr) (fun i _ => m - (intOf i).toNat)
  case atStart => exact ⟨0, Nat.zero_le _, rfl, by simpa [ints] using Arr.made w 3 m (.int .i64 0), below_alloc _ _⟩
  case round =>
    obtain ⟨k, hk, rfl, harr, hB⟩ := hrel
    have hA := Lib.hid harr
    by_cases hlt : k < m
    · have f0 : wr.cell? ⟨w.heap.size, k, none⟩ = some (I 0) := by rw [harr.cell, ints_at _ _ (by simp; omega)]; simp
      have f1 := harr.frozen k
      clear harr
      go_wp2
      go_roundw
      case rel => exact ⟨k + 1, by omega, by go_num, by rw [← fill_step k m hlt, ← ints_set]; exact hA.out.set k _, hB.setCell (Nat.le_refl _) _⟩
      case measure => simp [intOf]; omega
    · have hA2 : Hid (Arr wr w.heap.size 3 (ints (List.replicate m (-1)))) := by
        have e : k = m := by omega
        subst e
        simpa using hA
      clear hA harr
      go_wp2
      go_loopw [11] (fun i wr => ∃ k : Nat, k ≤ S.length ∧ i = .int .i64 k ∧ (∃ d : List Int, Arr wr w.heap.size 3 (ints d) ∧ d.length = m ∧ ∀ v : Nat, v < m → d.getD v 0 = if (v : Int) ∈ S.take k then 0 else -1) ∧ Below w.heap.size w wr) (fun i _ => S.length - (intOf i).toNat)
      case atStart => exact ⟨0, Nat.zero_le _, rfl, ⟨_, hA2.out, by simp, fun v hv => by simp [List.getD_eq_getElem?_getD, hv]⟩, hB⟩
      case round =>
        clear hA2 hB
        obtain ⟨k, hk, rfl, ⟨d, harr, hdl, hd⟩, hB⟩ := hrel
        have hA := Lib.hid harr
        have hD := Lib.hid hd
        have hDL := Lib.hid hdl
        clear hd hdl
        by_cases hlt : k < S.length
        · obtain ⟨b1, o1, _, e1, _, hb1, g1⟩ := hy.out.elem (by simp; omega)
          cases e1
          have fs := HF.out.s S[k] (List.getElem_mem hlt)
          have f0 : wr.cell? ⟨b1, o1 + k, none⟩ = some (I S[k]) := (hB.cell (p := ⟨b1, o1 + k, none⟩) hb1).trans (g1 _ _ (ints_at S k hlt))
          clear g1
          obtain ⟨s, hs⟩ : ∃ s : Nat, S[k] = s := ⟨S[k].toNat, by omega⟩
          have hsm : s < m := by omega
          have hsl : s < d.length := by rw [hDL.out]; exact hsm
          rw [hs] at f0
          have HS := Lib.hid hs
          clear hs fs
          have f1 : wr.cell? ⟨w.heap.size, s, none⟩ = some (I (d.getD s 0)) := by rw [harr.cell, getD_ints hsl]
          have f2 := harr.frozen s
          have hsz : (s : Int) < m := by omega
          clear harr
          go_wp2
          go_roundw
          case rel => exact ⟨k + 1, by omega, by go_num, ⟨d.set s 0, by rw [← ints_set]; exact hA.out.set s _, by simpa using hDL.out, fun v hv => by
              rw [getD_set _ _ _ _ hsl, List.take_succ_eq_append_getElem hlt, HS.out]
              by_cases e : v = s
              · subst e; simp
              · have e' : ¬ (v : Int) = s := by omega
                rw [if_neg e, hD.out v hv]; simp [e']⟩, hB.setCell (Nat.le_refl _) _⟩
          case measure => simp [intOf]; omega
        · have hH : Head E S m 0 true d := ⟨hDL.out, fun _ v hv => by
            have h := hD.out v hv
            rw [List.take_of_length_le (by omega)] at h
            by_cases hvS : (v : Int) ∈ S
            · rw [if_pos hvS] at h
              exact .inr ⟨0, Nat.le_refl _, by simpa using h, hvS, fun j hj => absurd hj (Nat.not_lt_zero _)⟩
            · rw [if_neg hvS] at h
              refine .inl ⟨h, fun k hk => ?_⟩
              have : k = 0 := by omega
              subst this
              exact hvS, fun h => by simp at h⟩
          have HH := Lib.hid hH
          have hneg : negs d ≤ m := by
            have := List.countP_le_length (p := fun x : Int => decide (x < 0)) (l := d)
            have h2 := hDL.out
            simp only [negs]; omega
          clear hH hD hDL harr
          go_wp2
          go_loopg [12, 13] (2 * m + 1) (fun g s12 s13 wr => ∃ (r : Nat) (mo : Bool) (d : List Int), s12 = .bool mo ∧ s13 = .int .i64 r ∧ Arr wr w.heap.size 3 (ints d) ∧ Head E S m r mo d ∧ 2 * negs d + mo.toNat ≤ g ∧ r + negs d + mo.toNat ≤ m + 1 ∧ Below w.heap.size w wr)
          case atStart => exact ⟨0, true, d, rfl, rfl, hA.out, HH.out, by simp; omega, by simp; omega, hB⟩
          case round =>
            clear hA HH hB hneg hk
            clear d
            obtain ⟨r, mo, d, rfl, rfl, harr, hH, hg, hr, hB⟩ := hrel
            have hA := Lib.hid harr
            have HH := Lib.hid hH
            clear harr hH
            cases mo with
            | false =>
              go_wp2
              go_ret2
              have hd := HH.out.stop rfl
              exact ⟨d, _, rfl, hd, by have := hA.out.rd m m (Nat.le_refl _) (by omega); exact this, hB⟩
            | true =>
              simp at hg hr
              go_wp2
              go_loopw [12, 14] (fun s12 s14 wi => ∃ (i : Nat) (mo : Bool) (d' : List Int), i ≤ E.length ∧ s12 = .bool mo ∧ s14 = .int .i64 i ∧ Arr wi w.heap.size 3 (ints d') ∧ InR E S m r i mo d' ∧ negs d' + mo.toNat ≤ negs d ∧ Below w.heap.size w wi) (fun _ s14 _ => E.length - (intOf s14).toNat)
              case atStart => exact ⟨0, false, d, Nat.zero_le _, rfl, rfl, hA.out, inR_start HH.out.len (HH.out.go rfl), by simp, hB⟩
              case round =>
                clear hA hB
                obtain ⟨i, mo, d', hi, rfl, rfl, harr, hI, hng, hB⟩ := hrel
                have hA := Lib.hid harr
                have HI := Lib.hid hI
                have HL := Lib.hid hI.len
                clear hI
                by_cases hlt : i < E.length
                · obtain ⟨b1, o1, _, e1, _, hb1, g1⟩ := hx.out.elem (by simp; omega)
                  cases e1
                  obtain ⟨f0, f1⟩ := edge_cells hB hb1 g1 i hlt
                  clear g1
                  have HE := Lib.hid (List.getElem?_eq_getElem hlt)
                  obtain ⟨⟨ea0, ea1⟩, eb0, eb1⟩ := HF.out.e E[i] (List.getElem_mem hlt)
                  obtain ⟨a, ha⟩ : ∃ a : Nat, E[i].1 = a := ⟨E[i].1.toNat, by omega⟩
                  obtain ⟨b, hb⟩ : ∃ b : Nat, E[i].2 = b := ⟨E[i].2.toNat, by omega⟩
                  have ham : a < m := by omega
                  have hbm : b < m := by omega
                  rw [ha] at f0
                  rw [hb] at f1
                  have hat : Hid (E[i].1.toNat = a) := Lib.hid (by omega)
                  have hbt : Hid (E[i].2.toNat = b) := Lib.hid (by omega)
                  clear ea0 ea1 eb0 eb1 ha hb
                  obtain ⟨x, hxa⟩ : ∃ x, d'.getD a 0 = x := ⟨_, rfl⟩
                  obtain ⟨y, hyb⟩ : ∃ y, d'.getD b 0 = y := ⟨_, rfl⟩
                  have f2 : wr.cell? ⟨w.heap.size, a, none⟩ = some (I x) := by rw [harr.cell, getD_ints (by rw [HL.out]; exact ham), hxa]
                  have f3 : wr.cell? ⟨w.heap.size, b, none⟩ = some (I y) := by rw [harr.cell, getD_ints (by rw [HL.out]; exact hbm), hyb]
                  have f4 := harr.frozen b
                  have HXA := Lib.hid hxa
                  have HYB := Lib.hid hyb
                  have ham' : (a : Int) < m := by omega
                  have hbm' : (b : Int) < m := by omega
                  clear harr hxa hyb
                  by_cases t1 : x = r
                  · have t1' : (x == (r : Int)) = true := eq_t t1
                    have T1 := Lib.hid t1
                    clear t1
                    by_cases t2 : y < 0
                    · have t2' : decide (y < 0) = true := de_t t2
                      go_wp2
                      go_roundw
                      case rel =>
                        have hi1 := inR_hit HF.out HI.out HE.out (by rw [hat.out, HXA.out, T1.out]) (by rw [hbt.out, HYB.out]; exact t2)
                        rw [hbt.out] at hi1
                        have hn1 := negs_set (d := d') (i := b) (x := r + 1) (by rw [HL.out]; exact hbm) (by omega) (by rw [HYB.out]; exact t2)
                        exact ⟨i + 1, true, d'.set b (r + 1), by omega, rfl, by go_num, by rw [← ints_set]; exact hA.out.set b _, hi1, by simp; omega, hB.setCell (Nat.le_refl _) _⟩
                      case measure => simp [intOf]; omega
                    · have t2' : decide (y < 0) = false := de_f t2
                      go_wp2
                      go_roundw
                      case rel => exact ⟨i + 1, mo, d', by omega, rfl, by go_num, hA.out, inR_miss HI.out HE.out (by rw [hbt.out, HYB.out]; omega), hng, hB⟩
                      case measure => simp [intOf]; omega
                  · have t1' : (x == (r : Int)) = false := eq_f t1
                    have T1 := Lib.hid t1
                    clear t1
                    go_wp2
                    go_roundw
                    case rel => exact ⟨i + 1, mo, d', by omega, rfl, by go_num, hA.out, inR_miss HI.out HE.out (by rw [hat.out, HXA.out]; exact fun h => T1.out h.1), hng, hB⟩
                    case measure => simp [intOf]; omega
                · have hie : i = E.length := by omega
                  have HI2 : Hid (InR E S m r E.length mo d') := by rw [← hie]; exact HI
                  have hmo : mo.toNat ≤ 1 := by cases mo <;> simp
                  clear HI hie
                  go_wp2
                  go_roundg (2 * negs d' + mo.toNat)
                  case measure => go_light; omega
                  case rel =>
                    refine ⟨r + 1, mo, d', rfl, by go_num, hA.out, ⟨HL.out, fun _ v hv => inR_full HF.out HI2.out v hv, fun h => ?_⟩, Nat.le_refl _, by omega, hB⟩
                    subst h
                    exact inR_end HF.out HI2.out
end Go.Proofs.Ytcghkemfepnihaa
