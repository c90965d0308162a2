import Derived.Test.YtakpikoffbgjfaaRQ
namespace Go.Proofs.Ytakpikoffbgjfaa
open Go.RowKit Go.Maps

/-- What things tell. -/
def itemF (M : HM) (r i : Int) : VV := if valF M r i = 6 then ⟨(keyF M r i).1, ⟨#[]⟩, (lookF M r (keyF M r i).1).1⟩ else getV M r i
def headF (M : HM) (r : Int) : VV := ⟨(sizeF M r).1, ⟨#[]⟩, 0⟩
def tellN (M : HM) (r : Int) : Nat := min (sizeF M r).1.toNat 50
def tellF (M : HM) (r : Int) : List VV := headF M r :: (List.range (tellN M r)).map fun i : Nat => itemF M r (i : Int)
def KeysOk (M : HM) : Prop := ∀ t ∈ M.things, ∀ k ∈ t.keys, (Lit.int .i64 k).wf = true
theorem keyF_wf {M : HM} (h : KeysOk M) (r i : Int) : (Lit.int .i64 (keyF M r i).1).wf = true := by
  have h0 : (Lit.int .i64 (0 : Int)).wf = true := by decide
  unfold keyF
  split
  · exact h0
  · split
    · exact h0
    · rename_i t ht
      split
      · exact h0
      · cases hk : t.keys[i.toNat]? with
        | none => exact h0
        | some k => exact h t (List.mem_of_getElem? ht) k (List.mem_of_getElem? hk)
theorem sizeF_nat (M : HM) (r : Int) : 0 ≤ (sizeF M r).1 := by
  unfold sizeF
  repeat' split
  all_goals simp
def TellRes (w : World) (l : List VV) (x : Int) (e : Ending) (w' : World) : Prop := ∃ v, e = .returned (.tuple #[v, I x]) ∧ w'.ownsRow w.heap.size 30 3 v l.length (vvs l) ∧ Below w.heap.size w w'
set_option maxHeartbeats 8000000 in
set_option maxRecDepth 100000 in
theorem tell_any (w : World) (F : Nat → Prop) (p : Nat) (M : HM) (tv fv : Value) (qs : List TQ) (r : Int) (h : MemW w F p M tv fv qs) (hs : M.frames.Pairwise (· < ·)) (hfl : M.frames.length ≤ 1000000000) (hth : M.things.length ≤ 1000000000) (hk : KeysOk M) :
    Calls Try.prog 21 #[P0 p, I r] w (TellRes w (tellF M r) (sizeF M r).2) := by
  have HM := Lib.hid h
  have HS := Lib.hid hs
  have HK := Lib.hid hk
  have hn0 := sizeF_nat M r
  clear h hs hk
  go_enter Try.func21, Try.ntmps21
  go_wp2_with fail
  refine (size_any w F p M tv fv qs r HM.out HS.out hfl hth).mono ?_
  rintro e w1 ⟨q, rfl, rfl⟩
  obtain ⟨n, hn⟩ : ∃ n : Nat, (sizeF M r).1 = n := ⟨(sizeF M r).1.toNat, by omega⟩
  obtain ⟨y, hy⟩ : ∃ y, (sizeF M r).2 = y := ⟨_, rfl⟩
  rw [hn, hy]
  have HN := Lib.hid hn
  have HY := Lib.hid hy
  have HC : Hid (tellN M r = min n 50) := Lib.hid (by unfold tellN; rw [hn, Int.toNat_natCast])
  clear hn hy hn0
  go_wp2_with fail
  have hown0 : ((w.drewN q).alloc (.cells #[I n, .string ⟨#[]⟩, I 0] 30)).ownsRow w.heap.size 30 3 (.slice (some ⟨w.heap.size, 0, none⟩) 1 1) 1 (vvs [headF M r]) := by
    have := (Arr.new (w.drewN q) 30 #[I n, .string ⟨#[]⟩, I 0]).own (sz := 3) w.heap.size 1 (Nat.le_refl _) rfl (by simp [maxLen])
    simpa [vvs, VV.cs, headF, HN.out] using this
  have HO0 := Lib.hid hown0
  clear hown0
  go_loopw [8, 9] (fun v i wr => ∃ k : Nat, k ≤ min n 50 ∧ i = .int .i64 k ∧ wr.ownsRow w.heap.size 30 3 v (k + 1) (vvs (headF M r :: (List.range k).map fun i : Nat => itemF M r (i : Int))) ∧ Below w.heap.size w wr) (fun _ i _ => min n 50 - (intOf i).toNat)
  case atStart => exact ⟨0, Nat.zero_le _, rfl, HO0.out, (below_drewN (Below.refl _ _) q).alloc (Nat.le_refl _) _⟩
  case round =>
    obtain ⟨k, hk, rfl, hown, hb⟩ := hrel
    have HOW := Lib.hid hown
    have HB := Lib.hid hb
    have hbs := hb.size
    clear hown hb HO0
    by_cases hlt : k < n ∧ k < 50
    · have hlt1 : (k : Int) < n := by omega
      have hlt2 : (k : Int) < 50 := by omega
      have hk50 : k < 50 := hlt.2
      have hmin : k < min n 50 := by omega
      have HLT := Lib.hid hmin
      clear hlt hmin
      go_wp2_with fail
      refine (get_any2 _ F p M tv fv qs r k (HM.out.below HB.out) HS.out hfl hth).mono ?_
      rintro e w2 ⟨rfl, hb2⟩
      have HB2 := Lib.hid (below_step HB.out hb2 HB.out.size)
      have HO2 := Lib.hid (own_kept HOW.out (fun b hb => hb2.block b (HOW.out.lt b hb).2))
      have hbs2 := HB2.out.size
      obtain ⟨gv, hgv⟩ : ∃ x, getV M r k = x := ⟨_, rfl⟩
      obtain ⟨ge, hge⟩ : ∃ x, valF M r k = x := ⟨_, rfl⟩
      rw [hgv, hge]
      have HGV := Lib.hid hgv
      have HGE := Lib.hid hge
      clear hb2 hgv hge HOW
      by_cases h6 : ge = 6
      · subst h6
        have HIT : Hid (itemF M r k = ⟨(keyF M r k).1, ⟨#[]⟩, (lookF M r (keyF M r k).1).1⟩) := Lib.hid (by unfold itemF; rw [if_pos HGE.out])
        have hbm : Below w2.heap.size w2 (w2.alloc (.cells #[I gv.n, .string gv.s, I gv.r] 30)) := below_alloc _ _
        have HBM := Lib.hid hbm
        clear hbm
        go_wp2_with fail
        refine (key_any _ F p M tv fv qs r k ((HM.out.below HB2.out).below HBM.out) HS.out hfl hth).mono ?_
        rintro e w3 ⟨q3, rfl, rfl⟩
        have HKW := Lib.hid (keyF_wf HK.out r k)
        obtain ⟨ky, hky⟩ : ∃ x, keyF M r k = x := ⟨_, rfl⟩
        rw [hky] at HKW HIT
        rw [hky]
        clear hky
        go_wp2_with fail
        refine (look_any _ F p M tv fv qs r ky.1 (((HM.out.below HB2.out).below HBM.out).drewN q3) HS.out hfl hth HKW.out).mono ?_
        rintro e w3 ⟨q4, rfl, rfl⟩
        obtain ⟨lk, hlk⟩ : ∃ x, lookF M r ky.1 = x := ⟨_, rfl⟩
        rw [hlk] at HIT
        rw [hlk]
        clear hlk
        go_upto_region 11 with fail
        obtain ⟨W5, hW5⟩ : ∃ W5, ((((w2.alloc (.cells #[I gv.n, .string gv.s, I gv.r] 30)).drewN (q3 + q4)).setCell ⟨w2.heap.size, 0, none⟩ (I ky.1)).setCell ⟨w2.heap.size, 1, none⟩ (.string ⟨#[]⟩)).setCell ⟨w2.heap.size, 2, none⟩ (I lk.1) = W5 := ⟨_, rfl⟩
        have hA5 := ((((Arr.new w2 30 #[I gv.n, .string gv.s, I gv.r]).drewN (q3 + q4)).set 0 (I ky.1)).set 1 (.string ⟨#[]⟩)).set 2 (I lk.1)
        rw [hW5] at hA5
        have hB5 : Below w2.heap.size w2 W5 := by
          rw [← hW5]
          exact (((below_drewN (below_alloc w2 _) (q3 + q4)).setCell (Nat.le_refl _) _).setCell (Nat.le_refl _) _).setCell (Nat.le_refl _) _
        have HO5 := Lib.hid (own_kept HO2.out (fun b hb => hB5.block b (HO2.out.lt b hb).2))
        have HB5 := Lib.hid (below_step HB2.out hB5 HB2.out.size)
        have y0 : W5.cell? ⟨w2.heap.size, 0, none⟩ = some (I ky.1) := hA5.cell 0
        have y1 : W5.cell? ⟨w2.heap.size, 1, none⟩ = some (.string ⟨#[]⟩) := hA5.cell 1
        have y2 : W5.cell? ⟨w2.heap.size, 2, none⟩ = some (I lk.1) := hA5.cell 2
        have hb5 := HB5.out.size
        rw [hW5]
        clear hW5 hA5 hB5
        go_wp2_with (at_builtin; refine wpl_append1 rfl _ _ _ rfl E53 rfl (HO5.out.alloc _) (u := .slice (some ⟨W5.heap.size, 0, none⟩) 1 1) (m := 1) (news := [I ky.1, .string ⟨#[]⟩, I lk.1]) rfl (Rd.fresh W5 #[I ky.1, .string ⟨#[]⟩, I lk.1] 30 1 1 (by omega) (by omega)) rfl (by simp [Value.oneCell']) (by omega) (by omega) (by simp only [maxLen]; omega) (by simp; omega) ?_; intro g' cap' w4 hap)
        go_roundw
        case rel => exact ⟨k + 1, by have := HLT.out; omega, by go_num, by
          rw [List.range_succ, List.map_append, ← List.cons_append, vvs_append]
          simpa [vvs, VV.cs, HIT.out] using hap.own, hap.below (HB5.out.alloc (by omega) _) (HO5.out.alloc _) (Nat.le_refl _) (by simp; omega)⟩
        case measure => have := HLT.out; simp [intOf]; omega
      · have hd : (ge == 6) = false := by simpa using h6
        have HIT : Hid (itemF M r k = gv) := Lib.hid (by unfold itemF; rw [if_neg (by rw [HGE.out]; exact h6), HGV.out])
        clear h6
        go_wp2_with (at_builtin; refine wpl_append1 rfl _ _ _ rfl E53 rfl ((HO2.out.alloc (.cells #[I gv.n, .string gv.s, I gv.r] 30)).alloc (.cells #[I gv.n, .string gv.s, I gv.r] 30)) (u := .slice (some ⟨w2.heap.size + 1, 0, none⟩) 1 1) (m := 1) (news := gv.cs) rfl (by have := Rd.fresh (w2.alloc (.cells #[I gv.n, .string gv.s, I gv.r] 30)) #[I gv.n, .string gv.s, I gv.r] 30 1 1 (by omega) (by omega); simpa [VV.cs] using this) rfl (by simp [VV.cs, Value.oneCell']) (by omega) (by omega) (by simp only [maxLen]; omega) (by simp; omega) ?_; intro g' cap' w4 hap)
        go_roundw
        case rel => exact ⟨k + 1, by have := HLT.out; omega, by go_num, by
          rw [List.range_succ, List.map_append, ← List.cons_append, vvs_append]
          simpa [vvs, VV.cs, HIT.out] using hap.own, hap.below ((HB2.out.alloc (by omega) _).alloc (by simp; omega) _) ((HO2.out.alloc _).alloc _) (Nat.le_refl _) (by simp; omega)⟩
        case measure => have := HLT.out; simp [intOf]; omega
    · have hdis : (¬ (k : Int) < n) ∨ ((k : Int) < n ∧ ¬ (k : Int) < 50) := by omega
      have hkn : k = min n 50 := by omega
      have HK2 := Lib.hid hkn
      clear hlt hkn
      rcases hdis with hlt1 | ⟨hlt1, hlt2⟩
      all_goals
        go_wp2_with fail
        go_ret2
        refine ⟨_, by rw [HY.out]; rfl, ?_, HB.out⟩
        have hl : (tellF M r).length = k + 1 := by simp [tellF, HC.out, HK2.out]
        rw [hl, tellF, HC.out, ← HK2.out]
        exact HOW.out
end Go.Proofs.Ytakpikoffbgjfaa
