import Derived.Test.YtcghkemfepnihaaBfs
import Derived.Deep.Light
namespace Go.Proofs.Ytcghkemfepnihaa
open Go.RowKit

/-- What lay at the cut lies still, but for one block. -/
structure KeepG (w : World) (g0 : Nat) (w' : World) : Prop where
  size : w.heap.size ≤ w'.heap.size
  block : ∀ k, k < w.heap.size → k ≠ g0 → w'.heap[k]? = w.heap[k]?
theorem KeepG.refl (w : World) (g0 : Nat) : KeepG w g0 w := ⟨Nat.le_refl _, fun _ _ _ => rfl⟩
theorem KeepG.set {w w' : World} {g0 : Nat} (h : KeepG w g0 w') (i : Nat) (v : Value) : KeepG w g0 (w'.setCell ⟨g0, i, none⟩ v) := ⟨by simpa using h.size, fun k hk hne => (Below.heap_setCell _ _ _ _ hne).trans (h.block k hk hne)⟩
theorem KeepG.alloc {w w' : World} {g0 : Nat} (h : KeepG w g0 w') (o : Obj) : KeepG w g0 (w'.alloc o) := ⟨by have := h.size; simp; omega, fun k hk hne => (Below.heap_alloc _ _ _ (Nat.lt_of_lt_of_le hk h.size)).trans (h.block k hk hne)⟩
theorem KeepG.grown {w w' w'' : World} {g0 : Nat} {row : Option Nat} (h : KeepG w g0 w') (hg : w'.grownBy w'' row) (hr : ∀ k, row = some k → w.heap.size ≤ k) : KeepG w g0 w'' :=
  ⟨Nat.le_trans h.size hg.size, fun k hk hne => (hg.block k (Nat.lt_of_lt_of_le hk h.size) (fun e => by have := hr k e.symm; omega)).trans (h.block k hk hne)⟩
theorem KeepG.cell {w w' : World} {g0 b o : Nat} {v : Value} (h : KeepG w g0 w') (hc : w.cell? ⟨b, o, none⟩ = some v) (hb : b ≠ g0) : w'.cell? ⟨b, o, none⟩ = some v :=
  (World.cell?_of_block (w := w) (h.block b (World.block_lt_of_cell? _ _ hc) hb)).trans hc

def casts (q : List Nat) : List Int := q.map (Nat.cast : Nat → Int)
theorem casts_length (q : List Nat) : (casts q).length = q.length := by simp [casts]
def Bd (d : List Int) (m : Nat) : Prop := ∀ v : Nat, v < m → d.getD v 0 + negs d ≤ m
theorem bd_hit {d : List Int} {m u v : Nat} (hl : d.length = m) (h : Bd d m) (hu : u < m) (hv : v < m) (hd : d.getD v 0 < 0) (hu0 : 0 ≤ d.getD u 0) : Bd (d.set v (d.getD u 0 + 1)) m := by
  have hn := negs_set (d := d) (i := v) (x := d.getD u 0 + 1) (by omega) (by omega) hd
  intro x hx
  rw [getD_set _ _ _ _ (by omega)]
  have h1 := h u hu
  have h2 := h x hx
  split <;> omega
theorem turn_false (E : List (Int × Int)) : E.map (turnB false) = E := by rw [show turnB false = id from rfl, List.map_id]
theorem negs_le (d : List Int) : negs d ≤ d.length := List.countP_le_length
theorem negs_start (n s : Nat) (hs : s < n) : negs ((List.replicate n (-1 : Int)).set s 0) + 1 = n := by
  have h := negs_set (d := List.replicate n (-1 : Int)) (i := s) (x := 0) (by simpa using hs) (by omega) (by simp [List.getD_eq_getElem?_getD, hs])
  have h2 : negs (List.replicate n (-1 : Int)) = n := by
    rw [negs, List.countP_eq_length.2 (by intro a ha; rw [List.eq_of_mem_replicate ha]; rfl)]; simp
  omega
theorem bd_start (n s : Nat) (hs : s < n) : Bd ((List.replicate n (-1 : Int)).set s 0) n := by
  intro v hv
  have := negs_start n s hs
  rw [getD_set _ _ _ _ (by simpa using hs)]
  split
  · omega
  · simp [List.getD_eq_getElem?_getD, hv]; omega

set_option maxHeartbeats 4000000 in
set_option maxRecDepth 100000 in
theorem distances_any (w : World) (n : Int) (v1 : Value) (E : List (Int × Int)) (fr : Int) (h1 : Rd w v1 E.length (pairs E)) (hE1 : E.length ≤ 1000000) :
    Calls Try.prog 17 #[I n, v1, I fr] w fun e w' => ∃ r d, e = .returned (.tuple #[r, I (fitF n E [fr])]) ∧ Rd w' r d.length (ints d) ∧ Below w.heap.size w w' ∧ (fitF n E [fr] ≠ 0 → d = []) ∧ (∀ m : Nat, n = m → fitF n E [fr] = 0 → IsDist E [fr] m d) := by
  obtain ⟨A1, c1, rfl, hm1⟩ := h1.form
  have ha := h1.alloc (.cells #[I fr] 3)
  have c0 := cell_alloc_l (.cells #[.slice (some ⟨w.heap.size, 0, none⟩) 1 1] 26) (cell_new_l (w.alloc (.cells #[I fr] 3)) (.slice A1 E.length c1) 24).1
  have c1' := (cell_new_l ((w.alloc (.cells #[I fr] 3)).alloc (.cells #[.slice A1 E.length c1] 24)) (.slice (some ⟨w.heap.size, 0, none⟩) 1 1) 26).1
  simp only [World.size_alloc] at c0 c1'
  have C0 := Lib.hid c0
  have C1 := Lib.hid c1'
  have hx1 := Lib.hid ((ha.alloc (.cells #[.slice A1 E.length c1] 24)).alloc (.cells #[.slice (some ⟨w.heap.size, 0, none⟩) 1 1] 26))
  have hy1 : Hid (Rd (((w.alloc (.cells #[I fr] 3)).alloc (.cells #[.slice A1 E.length c1] 24)).alloc (.cells #[.slice (some ⟨w.heap.size, 0, none⟩) 1 1] 26)) (.slice (some ⟨w.heap.size, 0, none⟩) 1 1) [fr].length (ints [fr])) :=
    Lib.hid (by simpa [ints] using ((Rd.fresh w #[I fr] 3 1 1 (by omega) (by omega)).alloc (.cells #[.slice A1 E.length c1] 24)).alloc (.cells #[.slice (some ⟨w.heap.size, 0, none⟩) 1 1] 26))
  have hB0 : Below w.heap.size w (((w.alloc (.cells #[I fr] 3)).alloc (.cells #[.slice A1 E.length c1] 24)).alloc (.cells #[.slice (some ⟨w.heap.size, 0, none⟩) 1 1] 26)) := (((Below.refl _ w).alloc (Nat.le_refl _) _).alloc (by simp) _).alloc (by simp; omega) _
  clear h1 ha c0 c1'
  by_cases hf : fitF n E [fr] = 0
  · have hf' : (fitF n E [fr] != 0) = false := ne_f hf
    obtain ⟨m, rfl, hm, F⟩ := fits_of hf
    have HF := Lib.hid F
    have HE := Lib.hid hf
    have hfr := F.s fr (by simp)
    obtain ⟨s, hs⟩ : ∃ s : Nat, fr = s := ⟨fr.toNat, by omega⟩
    have hsm : s < m := by omega
    subst hs
    have hmk := run_make_row' (P := Try.prog) 26 3 (.int .i64 0) 8 Try.underlying26 Try.info3 rfl .i64 .i64 m (by omega) (by omega)
    clear hf F hfr
    go_enter Try.func17, Try.ntmps17
    go_upto_region 4 with (first
      | (go_at_call 23; refine (named_any _ _ _ ⟨_, _, _, rfl⟩ ⟨_, _, _, rfl⟩).mono ?_; rintro e w' ⟨rfl, rfl⟩)
      | (go_at_call 22; refine (fit22_any _ _ _ _ _ E [(s : Int)] _ C0.out C1.out hx1.out hy1.out).mono ?_; rintro e w1 ⟨rfl, hB1⟩; have hx2 := Lib.hid (hx1.out.below hB1)))
    go_cut [9, 10] (fun s9 s10 wx => ∃ g0 G vs, s9 = .slice (some ⟨G, 0, none⟩) m m ∧ s10 = .slice (some ⟨g0, 0, none⟩) m m ∧ Arr wx g0 3 (ints (List.replicate m 0)) ∧ Rows wx G vs (graphF m E false) ∧ G ≠ g0 ∧ (∀ i, i < m → (vs.getD i nilS).ownBlock ≠ some g0) ∧ Below w.heap.size w wx ∧ w.heap.size ≤ g0)
    case first =>
      go_region_with (first
        | (go_at_call 25; refine (graph_rows _ m _ E false (by first | exact hx2.out | exact hx2.out.alloc _ | exact hx2.out.drew | exact (hx2.out.alloc _).drew | exact (hx2.out.drew).alloc _) hm HF.out.e (by omega)).mono ?_; rintro e w2 ⟨rfl, ⟨vs, hR⟩, hB2⟩))
      · go_wp2_with fail
        go_meet
        case rel =>
          have b1 := hB1.size
          have b2 := hB2.size
          have b3 := hR.arr.lt
          simp only [World.size_alloc, World.size_drew] at b1 b2 b3
          exact ⟨_, _, vs, rfl, rfl, by simpa [ints] using Arr.made w2 3 m (.int .i64 0), hR.alloc _, by first | omega | (simp; omega), fun i hi e => by have := ((hR.own i (by rw [graphF_length]; exact hi)).lt _ e).2; omega, (below_step (below_step hB0 hB1 (by simp; omega)).drew hB2 (by simp; omega)).alloc (by omega) _, by omega⟩
      · go_wp2_with fail
        go_meet
        case rel =>
          have b1 := hB1.size
          have b2 := hB2.size
          simp only [World.size_alloc, World.size_drew] at b1 b2
          have hA0 : Arr (w1.alloc (Obj.cells (madeCells #[Value.int IntKind.i64 0] m) 3)).drew w1.heap.size 3 (ints (List.replicate m 0)) := by simpa [ints] using (Arr.made w1 3 m (.int .i64 0)).drew
          simp only [World.size_alloc, World.size_drew] at hR
          exact ⟨_, _, vs, rfl, rfl, hA0.below hB2, hR, by omega, fun i hi e => by have := ((hR.own i (by rw [graphF_length]; exact hi)).lt _ e).1; omega, below_step ((below_step hB0 hB1 (by simp; omega)).alloc (by omega) _).drew hB2 (by simp; omega), by omega⟩
    case rest =>
      obtain ⟨g0, G, vs, rfl, rfl, hA, hR, hGg, hvs, hB, hg0⟩ := hcut
      clear hmk C0 C1 hx1 hy1 hB0 hB1 hx2
      obtain ⟨hR, hGg, hvs⟩ : Hid (Rows wc G vs (graphF m E false)) ∧ Hid (G ≠ g0) ∧ Hid (∀ i, i < m → (vs.getD i nilS).ownBlock ≠ some g0) := ⟨Lib.hid hR, Lib.hid hGg, Lib.hid hvs⟩
      go_wp2
      go_loopw [31] (fun i wr => ∃ k : Nat, k ≤ m ∧ i = .int .i64 k ∧ Arr wr g0 3 (ints (List.replicate k (-1) ++ List.replicate (m - k) 0)) ∧ KeepG wc g0 wr ∧ Below w.heap.size w wr) (fun i _ => m - (intOf i).toNat)
      case atStart => exact ⟨0, Nat.zero_le _, rfl, by simpa [ints] using hA, KeepG.refl _ _, hB⟩
      case round =>
        clear hA hB
        obtain ⟨k, hk, rfl, harr, hK, hB⟩ := hrel
        have hA := Lib.hid harr
        have HK := Lib.hid hK
        clear hK
        by_cases hlt : k < m
        · have f0 : wr.cell? ⟨g0, k, none⟩ = some (I 0) := by rw [harr.cell, ints_at _ _ (by simp; omega)]; simp
          have f1 := harr.frozen k
          clear harr
          go_wp2
          go_roundw
          case rel => exact ⟨k + 1, by omega, by go_num, by rw [← fill_step k m hlt, ← ints_set]; exact hA.out.set k _, HK.out.set _ _, hB.setCell hg0 _⟩
          case measure => simp [intOf]; omega
        · have hA2 : Hid (Arr wr g0 3 (ints (List.replicate m (-1)))) := by
            have e : k = m := by omega
            subst e
            simpa using hA
          have f0 : wr.cell? ⟨g0, s, none⟩ = some (I (-1)) := by rw [hA2.out.cell, ints_at _ _ (by simpa using hsm)]; simp
          have f1 := hA2.out.frozen s
          have hsz : (s : Int) < m := by omega
          clear hA harr
          go_wp2
          obtain ⟨base, hbs⟩ : ∃ b, wr.heap.size = b := ⟨_, rfl⟩
          have hbase : wc.heap.size ≤ base := by rw [← hbs]; exact HK.out.size
          have hgb : g0 < base := by rw [← hbs]; exact hA2.out.lt
          go_loopg [12] (m + 1) (fun g s12 wo => ∃ (d : List Int) (q : List Nat), Arr wo g0 3 (ints d) ∧ OwnQ wo base 3 s12 q.length (ints (casts q)) ∧ Bfs E [(s : Int)] m d q ∧ Bd d m ∧ KeepG wc g0 wo ∧ Below w.heap.size w wo ∧ q.length + negs d ≤ g ∧ g ≤ m + 1 ∧ base ≤ wo.heap.size)
          case atStart =>
            have hn := negs_start m s hsm
            refine ⟨(List.replicate m (-1)).set s 0, [s], ?_, ?_, bfs_start hsm, bd_start m s hsm, (HK.out.set _ _).alloc _, (hB.setCell hg0 _).alloc (by simp; omega) _, by simp; omega, Nat.le_refl _, by simp; omega⟩
            · rw [← ints_set]; exact (hA2.out.set s _).alloc _
            · rw [← hbs]; exact OwnQ.of_arr (cs := [I s]) (by simpa using Arr.new (wr.setCell ⟨g0, s, none⟩ (.int .i64 0)) 3 #[I s]) (Nat.le_refl _) rfl (by simp [maxLen])
          case round =>
            clear hA2 f0 f1 hB hbs
            obtain ⟨d, q, harr, hown, hF, hBd, hK, hB, hg, hgm, hbw⟩ := hrel
            have hA := Lib.hid harr
            have HFS := Lib.hid hF
            have HBD := Lib.hid hBd
            have HK2 := Lib.hid hK
            clear hF hBd hK harr HK
            cases q with
            | nil =>
              have hown0 : OwnQ wr base 3 u12 0 [] := hown
              obtain ⟨gq, oq, cq, rfl, hq1, hq2, hq3, hq4, hqc⟩ := hown0.form
              clear hqc hown hown0
              go_wp2
              go_ret2
              have hl := HFS.out.len
              exact ⟨_, d, by rw [HE.out]; rfl, by rw [hl]; exact hA.out.rd _ _ (Nat.le_refl _) (by omega), hB, fun h => absurd HE.out h, fun k hk _ => (by obtain rfl : m = k := (by omega); exact bfs_end HF.out HFS.out)⟩
            | cons u qs =>
              have hown0 : OwnQ wr base 3 u12 (qs.length + 1) (I u :: ints (casts qs)) := hown
              have hg1 : qs.length + 1 + negs d ≤ gk := hg
              clear hown hg
              have HQ := Lib.hid hown0
              obtain ⟨gq, oq, cq, rfl, hq1, hq2, hq3, hq4, hqc⟩ := hown0.form
              have fq : wr.cell? ⟨gq, oq, none⟩ = some (I u) := hqc 0 _ rfl
              have hum : u < m := (HFS.out.inq u (by simp)).1
              have hum' : (u : Int) < m := by omega
              have hq0 : (0 : Int) < (qs.length : Int) + 1 := by omega
              obtain ⟨vn, hvn⟩ : ∃ vn, vs.getD u nilS = vn := ⟨_, rfl⟩
              obtain ⟨row, hrow⟩ : ∃ row, (graphF m E false).getD u [] = row := ⟨_, rfl⟩
              have hul : u < (graphF m E false).length := by rw [graphF_length]; exact hum
              have hor := hR.out.own u hul
              have hnb := hvs.out u hum
              rw [hvn, hrow] at hor
              rw [hvn] at hnb
              have hrd := Rd.of_own hor
              have fv : wr.cell? ⟨G, u, none⟩ = some vn := HK2.out.cell (by rw [hR.out.arr.cell, ← hvn, List.getD_eq_getElem?_getD, List.getElem?_eq_getElem (by rw [hR.out.len]; exact hul)]; rfl) hGg.out
              obtain ⟨A3, c3, rfl, hm3⟩ := hrd.form
              have hgE : row.length ≤ E.length := by rw [← hrow]; exact Nat.le_trans (le_total _ _) (total_graph _ _ _)
              have HRD := Lib.hid hrd
              have HNB := Lib.hid hnb
              have HMEM : Hid (∀ v : Int, v ∈ row ↔ ((u : Int), v) ∈ E) := Lib.hid (fun v => by rw [← hrow, mem_graph HF.out.e, turn_false])
              clear hqc hown0 hvn hrow hul hor hnb hrd
              go_wp2
              go_loopw [12, 55] (fun s12 i wi => ∃ (k : Nat) (d : List Int) (qt : List Nat), k ≤ row.length ∧ i = .int .i64 k ∧ Arr wi g0 3 (ints d) ∧ OwnQ wi base 3 s12 (qt.length + 1) (I u :: ints (casts qt)) ∧ Bfi E [(s : Int)] m row d u qt k ∧ Bd d m ∧ KeepG wc g0 wi ∧ Below w.heap.size w wi ∧ qt.length + 1 + negs d ≤ gk ∧ base ≤ wi.heap.size) (fun _ i _ => row.length - (intOf i).toNat)
              case atStart => exact ⟨0, d, qs, Nat.zero_le _, rfl, hA.out, HQ.out, ⟨HFS.out, fun j hj => absurd hj (Nat.not_lt_zero _)⟩, HBD.out, HK2.out, hB, hg1, hbw⟩
              case round =>
                clear hA HQ HFS HBD HK2 hB hg1 fq fv hbw hq0
                clear hq1 hq2 hq3 hq4
                obtain ⟨k, d2, qt, hk, rfl, harr, hown, hF, hBd, hK, hB, hg1, hbw⟩ := hrel
                have hA := Lib.hid harr
                have HFI := Lib.hid hF
                have HBD := Lib.hid hBd
                have HK2 := Lib.hid hK
                have HQ := Lib.hid hown
                obtain ⟨gq, oq, cq, rfl, hq1, hq2, hq3, hq4, hqc⟩ := hown.form
                have fq : wr.cell? ⟨gq, oq, none⟩ = some (I u) := hqc 0 _ rfl
                have hdl := HFI.out.base.len
                clear hF hBd hK hown hqc
                by_cases hlt : k < row.length
                · obtain ⟨b1, o1, _, e1, _, hb1, g1⟩ := HRD.out.elem (by simp; omega)
                  cases e1
                  have hmem := (HMEM.out row[k]).1 (List.getElem_mem hlt)
                  have hvr := (HF.out.e _ hmem).2
                  obtain ⟨v, hv⟩ : ∃ v : Nat, row[k] = v := ⟨row[k].toNat, by simp at hvr; omega⟩
                  have hvm : v < m := by simp [hv] at hvr; omega
                  have hvm' : (v : Int) < m := by omega
                  have f0 : wr.cell? ⟨b1, o1 + k, none⟩ = some (I row[k]) := HK2.out.cell (g1 k _ (ints_at row k hlt)) (fun e => HNB.out (by rw [← e]; rfl))
                  rw [hv] at f0 hmem
                  have HMV := Lib.hid hmem
                  have HV := Lib.hid hv
                  have f1 : wr.cell? ⟨g0, v, none⟩ = some (I (d2.getD v 0)) := by rw [harr.cell, getD_ints (by omega)]
                  have f2 := harr.frozen v
                  have f3 : wr.cell? ⟨g0, u, none⟩ = some (I (d2.getD u 0)) := by rw [harr.cell, getD_ints (by omega)]
                  have hu0 := (HFI.out.base.inq u (by simp)).2
                  have hub := HBD.out u hum
                  obtain ⟨du, hdu⟩ : ∃ du : Nat, d2.getD u 0 = du := ⟨(d2.getD u 0).toNat, by omega⟩
                  obtain ⟨dv, hdv⟩ : ∃ dv : Int, d2.getD v 0 = dv := ⟨_, rfl⟩
                  rw [hdv] at f1
                  rw [hdu] at f3
                  have hdm : du ≤ m := by omega
                  have HDU := Lib.hid hdu
                  have HDV := Lib.hid hdv
                  clear harr hmem hvr hv g1 hdu hdv hub hu0
                  by_cases hd : dv < 0
                  · have hd' : decide (dv < 0) = true := de_t hd
                    have HD : Hid (dv < 0) := Lib.hid hd
                    clear hd
                    have HQ2 := Lib.hid ((HQ.out.setBelow (a := ⟨g0, v, none⟩) hgb (I (du + 1))).alloc (.cells #[I v] 3))
                    have HA2 : Hid (Arr (wr.setCell ⟨g0, v, none⟩ (I (du + 1))) g0 3 (ints (d2.set v (du + 1)))) := Lib.hid (by rw [← ints_set]; exact hA.out.set v _)
                    have HK3 := Lib.hid ((HK2.out.set v (I (du + 1))).alloc (.cells #[I v] 3))
                    have hcn := Lib.hid ((cell_new_l (wr.setCell ⟨g0, v, none⟩ (I (du + 1))) (I v) 3).1)
                    have hqm : qt.length ≤ m + 1 := by omega
                    have hcn : Hid (((wr.setCell ⟨g0, v, none⟩ (I (du + 1))).alloc (.cells #[I v] 3)).cell? ⟨wr.heap.size, 0, none⟩ = some (I v)) := Lib.hid (by simpa using hcn.out)
                    go_upto_region 19 with fail
                    go_wp2_with (at_builtin; refine wpl_appendQ rfl _ _ _ rfl E26 rfl HQ2.out rfl hcn.out rfl (by omega) (by simp only [maxLen]; omega) (by simp; omega) ?_; intro v' w2 hq' hgr)
                    go_roundw
                    case rel =>
                      have hgr2 : ((wr.setCell ⟨g0, v, none⟩ (I (du + 1))).alloc (.cells #[I v] 3)).grownBy w2 (some gq) := hgr
                      have hbf := bfi_hit HF.out HFI.out (v := v) (by rw [List.getElem?_eq_getElem hlt, HV.out]) HMV.out (by rw [HDV.out]; exact HD.out)
                      have hbd := bd_hit hdl HBD.out hum hvm (by rw [HDV.out]; exact HD.out) (by rw [HDU.out]; omega)
                      rw [HDU.out] at hbf hbd
                      have hns := negs_set (d := d2) (i := v) (x := (du : Int) + 1) (by omega) (by omega) (by rw [HDV.out]; exact HD.out)
                      have hws := hB.size
                      have hgs := hgr2.size
                      simp only [World.size_alloc, World.size_setCell] at hgs
                      exact ⟨k + 1, d2.set v (du + 1), qt ++ [v], by omega, by go_num, (HA2.out.alloc _).grown hgr2 (fun e => by cases e; omega), by simpa [ints, casts] using hq', hbf, hbd, HK3.out.grown hgr2 (fun j hj => by cases hj; omega),
                        ((hB.setCell hg0 _).alloc (by simp; omega) _).grown hgr2 (by simp; omega) (fun j hj => by cases hj; omega), by simp; omega, by omega⟩
                    case measure => simp [intOf]; omega
                  · have hd' : decide (dv < 0) = false := de_f hd
                    have HD : Hid (¬ dv < 0) := Lib.hid hd
                    clear hd
                    go_wp2
                    go_roundw
                    case rel => exact ⟨k + 1, d2, qt, by omega, by go_num, hA.out, HQ.out, bfi_miss HFI.out (by rw [List.getElem?_eq_getElem hlt, HV.out]) (by rw [HDV.out]; exact HD.out), HBD.out, HK2.out, hB, hg1, hbw⟩
                    case measure => simp [intOf]; omega
                · have hke : k = row.length := by omega
                  subst hke
                  go_wp2
                  all_goals
                    have hpop := HQ.out.pop
                    go_roundg (qt.length + negs d2)
                    case measure => go_light; omega
                    case rel => exact ⟨d2, qt, hA.out, by simpa [*] using hpop, bfi_end HFI.out (fun v hv => (HMEM.out v).2 hv), HBD.out, HK2.out, hB, Nat.le_refl _, by omega, hbw⟩
  · have hf' : (fitF n E [fr] != 0) = true := ne_t hf
    go_enter Try.func17, Try.ntmps17
    go_wp2_with (first
      | (go_at_call 23; refine (named_any _ _ _ ⟨_, _, _, rfl⟩ ⟨_, _, _, rfl⟩).mono ?_; rintro e w' ⟨rfl, rfl⟩)
      | (go_at_call 22; refine (fit22_any _ _ _ _ _ E [fr] _ C0.out C1.out hx1.out hy1.out).mono ?_; rintro e w1 ⟨rfl, hB1⟩))
    go_ret2
    exact ⟨_, [], rfl, Rd.nil _, below_step hB0 hB1 (by simp; omega), fun _ => rfl, fun _ _ h => absurd h hf⟩
end Go.Proofs.Ytcghkemfepnihaa
