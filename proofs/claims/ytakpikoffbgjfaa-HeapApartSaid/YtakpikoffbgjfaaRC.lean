import Derived.Test.YtakpikoffbgjfaaRB
namespace Go.Proofs.Ytakpikoffbgjfaa
open Go.RowKit Go.Maps

def mapTo {A : Type} (g : A → A) (l : List A) (i : Nat) : List A := (l.take i).map g ++ l.drop i
theorem mapTo_zero {A : Type} (g : A → A) (l : List A) : mapTo g l 0 = l := by simp [mapTo]
theorem mapTo_all {A : Type} (g : A → A) (l : List A) : mapTo g l l.length = l.map g := by simp [mapTo]
theorem mapTo_len {A : Type} (g : A → A) (l : List A) (i : Nat) : (mapTo g l i).length = l.length := by simp [mapTo]; omega
theorem mapTo_at {A : Type} (g : A → A) : ∀ (l : List A) (i : Nat) (t : A), l[i]? = some t → (mapTo g l i)[i]? = some t ∧ mapTo g l (i + 1) = (mapTo g l i).set i (g t)
  | [], i, t, h => by simp at h
  | x :: l, 0, t, h => by simp at h; subst h; simp [mapTo]
  | x :: l, i + 1, t, h => by
    have := mapTo_at g l i t (by simpa using h)
    simpa [mapTo] using this
def goneR (f : Int) (t : RT) : RT := if t.frame = f then { t with gone := true } else t
theorem RmW.setGone {w : World} {F : Nat → Prop} {p j g n cap : Nat} {M : RM} {qs : List RQ} {t : RT} (h : RmW w F p M (.slice (some ⟨g, 0, none⟩) n cap) qs) (hn : M.l.length = n) (hj : M.l[j]? = some t) :
    RmW (w.setCell ⟨g, j * 6 + 5, none⟩ (.bool true)) F p { M with l := M.l.set j { t with gone := true } } (.slice (some ⟨g, 0, none⟩) n cap) qs := by
  subst hn
  have hjl : j < M.l.length := (List.getElem?_eq_some_iff.1 hj).1
  obtain ⟨q, hq⟩ : ∃ q, qs[j]? = some q := ⟨qs[j]'(by rw [h.len]; exact hjl), List.getElem?_eq_getElem _⟩
  have hT := h.each j t q hj hq
  obtain ⟨gc, hgc⟩ := own_type h.row (k := g) rfl
  have hb : ∀ k, k ≠ g → (w.setCell ⟨g, j * 6 + 5, none⟩ (.bool true)).heap[k]? = w.heap[k]? := fun k hk => Below.heap_setCell _ _ _ _ hk
  have hT' : RtW (w.setCell ⟨g, j * 6 + 5, none⟩ (.bool true)) F { t with gone := true } q := by
    have := hT.kept (w' := w.setCell ⟨g, j * 6 + 5, none⟩ (.bool true)) (G := F) (fun a k e => hb k (hT.off hgc (by decide) (by decide) k a e)) (fun a k e => hT.sF a k e)
    exact ⟨this.v, this.k, this.u, this.sF⟩
  have hrow := (h.row.stored (j * 6 + 5) (.bool true)).1
  rw [rcs_set M.l qs j t { t with gone := true } q q hj hq 5 (.bool true) (by omega) rfl] at hrow
  have := RmW.change h hj hq hT' (fun k hk h1 _ => hb k h1) hrow (fun _ h => h) (fun k hk => by simpa using h.lt k hk) (fun a k e => .inl e) (fun a b hab k e1 => h.apart j j a b _ _ hq hq (.inr hab) k e1)
  rwa [set_same qs j q hq] at this
def leaveR (M : RM) : RM × Bool := if M.frames = 1 then (M, false) else ({ M with frames := M.frames - 1, l := M.l.map (goneR M.frames) }, true)
set_option maxHeartbeats 4000000 in
set_option maxRecDepth 100000 in
theorem rleave_any (w : World) (F : Nat → Prop) (p : Nat) (M : RM) (lv : Value) (qs : List RQ) (h : RmW w F p M lv qs) (hf : 0 ≤ M.frames ∧ M.frames ≤ 1000000000) (hll : M.l.length ≤ 1000000000) :
    Calls Try.prog 28 #[P0 p] w (RmRes w F p (leaveR M).1 (.bool (leaveR M).2)) := by
  obtain ⟨c0, c1, _, _, _⟩ := h.cell
  have HH := Lib.hid h
  obtain ⟨hf1, hf2⟩ := hf
  obtain ⟨fr, hfr⟩ : ∃ x, M.frames = x := ⟨_, rfl⟩
  have HFR := Lib.hid hfr
  rw [hfr] at c1 hf1 hf2
  clear h hfr
  by_cases h1 : fr = 1
  · have hd : (fr == 1) = true := by simpa using h1
    have e : leaveR M = (M, false) := by rw [leaveR, if_pos (by rw [HFR.out]; exact h1)]
    have HE := Lib.hid e
    clear e h1 c0
    go_enter Try.func28, Try.ntmps28
    go_wp2
    go_ret
    exact ⟨F, lv, qs, by rw [HE.out]; rfl, by rw [HE.out]; exact HH.out, Chg.refl F w, fun k hk => .inl hk⟩
  · have hd : (fr == 1) = false := by simpa using h1
    have e : leaveR M = ({ M with frames := fr - 1, l := M.l.map (goneR fr) }, true) := by rw [leaveR, if_neg (by rw [HFR.out]; exact h1), HFR.out]
    have HE := Lib.hid e
    clear e h1 c0 c1
    have c1 := HH.out.cell.2.1
    rw [HFR.out] at c1
    go_enter Try.func28, Try.ntmps28
    go_wp2_with fail
    clear c1
    have f00 : ∃ (A : Option Addr) (c : Nat), lv = .slice A M.l.length c := by
      obtain ⟨A, c, e, _⟩ := (Rd.of_own HH.out.row).form
      exact ⟨A, c, e⟩
    obtain ⟨Al, cl, rfl⟩ := f00
    obtain ⟨nl, hnl⟩ : ∃ n, M.l.length = n := ⟨_, rfl⟩
    have HNL := Lib.hid hnl
    rw [hnl] at hll
    clear hnl
    go_loopw [3] (fun i wr => ∃ k : Nat, k ≤ nl ∧ i = .int .i64 k ∧ RmW wr F p { M with l := mapTo (goneR fr) M.l k } (.slice Al M.l.length cl) qs ∧ Chg F w wr) (fun i _ => nl - (intOf i).toNat)
    case atStart => exact ⟨0, Nat.zero_le _, rfl, by rw [mapTo_zero]; exact HH.out, Chg.refl F w⟩
    case round =>
      obtain ⟨k, hk, rfl, hm, hc⟩ := hrel
      obtain ⟨c0, c1, _, _, _⟩ := hm.cell
      simp only [HFR.out, HNL.out] at c0 c1
      have hM := Lib.hid hm
      have hC := Lib.hid hc
      clear hm hc
      by_cases hlt : k < nl
      · have hlt1 : (k : Int) < nl := by omega
        obtain ⟨t, ht⟩ : ∃ t, M.l[k]? = some t := ⟨_, List.getElem?_eq_getElem (by rw [HNL.out]; exact hlt)⟩
        obtain ⟨ha1, ha2⟩ := mapTo_at (goneR fr) M.l k t ht
        obtain ⟨g, cap, q, etv, hn1, hn2, hgl, hq, hT, _, _, _, _, k4, k5, hfz⟩ := hM.out.thing ha1
        have hml : (mapTo (goneR fr) M.l k).length = nl := by rw [mapTo_len, HNL.out]
        simp only [hml] at etv
        rw [HNL.out] at etv
        cases etv
        obtain ⟨tf, htf⟩ : ∃ x, t.frame = x := ⟨_, rfl⟩
        rw [htf] at k4
        have f5 := hfz (k * 6 + 5)
        have HA1 := Lib.hid ha1
        have HA2 := Lib.hid ha2
        have HTF := Lib.hid htf
        have HLT := Lib.hid hlt
        have HML := Lib.hid hml
        have hFg : Hid (F g) := Lib.hid (hM.out.rowF g rfl)
        clear ht ha1 ha2 hq hT hfz htf hlt hml
        by_cases hff : tf = fr
        · subst hff
          have hd : (tf == tf) = true := by simp
          go_wp2_with fail
          go_quiet (fail)
          go_wp2_with fail
          go_roundw
          case rel =>
            refine ⟨k + 1, by have := HLT.out; omega, by go_num, ?_, ?_⟩
            · have hs := RmW.setGone (hM.out.drewN nq) (by simp only [HML.out, HNL.out]) HA1.out
              rw [HA2.out]
              have hg : goneR tf t = { t with gone := true } := by rw [goneR, if_pos HTF.out]
              rw [hg]
              rw [HNL.out] at hs ⊢
              exact hs
            · exact (hC.out.drewN nq).set (a := ⟨g, _, none⟩) hFg.out _
          case measure => have := HLT.out; simp [intOf]; omega
        · have hd : (tf == fr) = false := by simpa using hff
          have HFF := Lib.hid hff
          clear hff
          go_wp2_with fail
          go_quiet (fail)
          go_wp2_with fail
          go_roundw
          case rel =>
            refine ⟨k + 1, by have := HLT.out; omega, by go_num, ?_, hC.out.drewN nq⟩
            rw [HA2.out]
            have hg : goneR fr t = t := by rw [goneR, if_neg (by rw [HTF.out]; exact HFF.out)]
            rw [hg, set_same _ _ _ HA1.out]
            exact hM.out.drewN nq
          case measure => have := HLT.out; simp [intOf]; omega
      · obtain rfl : k = nl := by omega
        have f1 := hM.out.arr.frozen 1
        have hmm := RmW.word (M' := { M with frames := fr - 1, l := M.l.map (goneR fr) }) hM.out 1 (I (fr - 1)) (by show _ = mapTo (goneR fr) M.l k; rw [← HNL.out, mapTo_all]) rfl
        have HMM := Lib.hid hmm
        clear hmm hlt
        go_wp2
        go_ret
        exact ⟨F, _, qs, by rw [HE.out]; rfl, by rw [HE.out]; exact HMM.out, hC.out.set (a := ⟨p, 1, none⟩) HH.out.fp _, fun k hk => .inl hk⟩
end Go.Proofs.Ytakpikoffbgjfaa
